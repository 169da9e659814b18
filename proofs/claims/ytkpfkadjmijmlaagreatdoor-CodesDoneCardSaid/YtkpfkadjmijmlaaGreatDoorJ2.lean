/- Texts of this claim, joined: The order that a region draws does not matter. -/
import Derived.MapKept
import Derived.Laws.StructEq
import Derived.LoopN
import Derived.Test.YtkpfkadjmijmlaaGreatDoorJ1
/- The machine is right: maps. -/
namespace Go.Proofs.YtkpfkadjmijmlaaGreatDoor.M
open Go.RowKit Go.MapKept
set_option linter.unusedVariables false
set_option linter.unusedSimpArgs false
section
variable {P : Program} {C : Cx} {B : Nat} {F : Nat → Nat → Prop} {w0 : World} {hp : Heap} {tm : List Cell} {ct : Array Value}
def keyFit (d : TypeDesc) (k : AVal) : Prop := match d, k with
  | .int _, .int _ _ => True
  | .string, .str _ => True
  | .bool, .bool _ => True
  | _, _ => False
theorem akeq_spec {d : TypeDesc} {a b : AVal} {u v : Value} {q : Bool} (hu : RV C a u) (hv : RV C b v) (hd : (∃ k, d = .int k) ∨ d = .string ∨ d = .bool) (hda : keyFit d a) (h : akeq a b = some q) :
    Instr.sameNow d u v = some q ∧ (q = true → v = u) := by
  cases a <;> cases b <;> simp only [akeq] at h <;> try (cases h; done)
  · obtain rfl := hu.int_inv
    obtain rfl := hv.int_inv
    split at h
    · rename_i hk
      subst hk
      injection h with h; subst h
      rcases hd with ⟨k', rfl⟩ | rfl | rfl
      · exact ⟨by simp [Instr.sameNow], fun e => by simp at e; rw [e]⟩
      · exact hda.elim
      · exact hda.elim
    · cases h
  · obtain rfl := hu.bool_inv
    obtain rfl := hv.bool_inv
    injection h with h; subst h
    rcases hd with ⟨k', rfl⟩ | rfl | rfl
    · exact hda.elim
    · exact hda.elim
    · exact ⟨by simp [Instr.sameNow], fun e => by simp at e; rw [e]⟩
  · obtain rfl := hu.str_inv
    obtain rfl := hv.str_inv
    injection h with h; subst h
    rcases hd with ⟨k', rfl⟩ | rfl | rfl
    · exact hda.elim
    · refine ⟨by simp only [Instr.sameNow]; rw [beq_toListBytes], fun e => ?_⟩
      rw [← beq_toListBytes] at e
      have := (bytes_beq _ _).1 e
      rw [this]
    · exact hda.elim
theorem find_rel {d : TypeDesc} {k : AVal} {kv : Value} (hk : RV C k kv) (hd : (∃ k, d = .int k) ∨ d = .string ∨ d = .bool) (hda : keyFit d k) :
    ∀ (es : List (AVal × AVal)) (l : List MapEntry) (i : Nat), l.length = es.length → (∀ (j : Nat) p, es[j]? = some p → ∃ x, l[j]? = some x ∧ RV C p.1 x.key ∧ RV C p.2 x.val) → ∀ r, afind k es i = some r →
      match r with
      | none => Instr.findNow d kv l i = some none
      | some (j, v) => ∃ x, Instr.findNow d kv l i = some (some (j, x.val)) ∧ i ≤ j ∧ l[j - i]? = some x ∧ RV C v x.val ∧ x.key = kv := by
  intro es
  induction es with
  | nil =>
    intro l i hl _ r h
    simp at hl; subst hl
    cases h
    rfl
  | cons p es ih =>
    intro l i hl hr r h
    obtain ⟨pk, pv⟩ := p
    cases l with
    | nil => simp at hl
    | cons x l =>
      obtain ⟨x', hx', h1, h2⟩ := hr 0 _ rfl
      simp at hx'; subst hx'
      simp only [afind] at h
      split at h
      · rename_i he
        cases h
        obtain ⟨s1, s2⟩ := akeq_spec hk h1 hd hda he
        exact ⟨x, by simp [Instr.findNow, s1], Nat.le_refl _, by simp, h2, s2 rfl⟩
      · rename_i he
        obtain ⟨s1, _⟩ := akeq_spec hk h1 hd hda he
        have := ih l (i + 1) (by simpa using hl) (fun j p hj => by
          obtain ⟨x', q1, q2, q3⟩ := hr (j + 1) p (by simpa using hj)
          exact ⟨x', by simpa using q1, q2, q3⟩) r h
        cases r with
        | none => simp only at this ⊢; simp [Instr.findNow, s1, this]
        | some q =>
          obtain ⟨j, v⟩ := q
          obtain ⟨x', q1, q2, q3, q4⟩ := this
          refine ⟨x', by simp [Instr.findNow, s1, q1], by omega, ?_, q4⟩
          rw [show j - i = (j - (i + 1)) + 1 by omega, List.getElem?_cons_succ]
          exact q3
      · cases h
theorem akeq_ne {a b : AVal} {u v : Value} (hu : RV C a u) (hv : RV C b v) (h : akeq a b = some false) : v ≠ u := by
  cases a <;> cases b <;> simp only [akeq] at h <;> try (cases h; done)
  · obtain rfl := hu.int_inv
    obtain rfl := hv.int_inv
    split at h
    · injection h with h
      intro e
      cases e
      simp at h
    · cases h
  · obtain rfl := hu.bool_inv
    obtain rfl := hv.bool_inv
    injection h with h
    intro e
    cases e
    simp at h
  · obtain rfl := hu.str_inv
    obtain rfl := hv.str_inv
    injection h with h
    intro e
    cases e
    simp at h
theorem find_none {k : AVal} {kv : Value} (hk : RV C k kv) : ∀ (es : List (AVal × AVal)) (l : List MapEntry) (i : Nat), l.length = es.length → (∀ (j : Nat) p, es[j]? = some p → ∃ x, l[j]? = some x ∧ RV C p.1 x.key) → afind k es i = some none → ∀ x ∈ l, x.key ≠ kv := by
  intro es
  induction es with
  | nil =>
    intro l i hl _ _ x hx
    simp at hl; subst hl
    cases hx
  | cons p es ih =>
    intro l i hl hr h x hx
    obtain ⟨y, l, rfl⟩ : ∃ y r, l = y :: r := by cases l with | nil => simp at hl | cons y r => exact ⟨y, r, rfl⟩
    obtain ⟨z, hz, hz1⟩ := hr 0 p rfl
    simp at hz; subst hz
    obtain ⟨pk, pv⟩ := p
    simp only [afind] at h
    split at h
    · cases h
    · rename_i hq
      cases hx with
      | head => exact akeq_ne hk hz1 hq
      | tail _ hx => exact ih l (i + 1) (by simpa using hl) (fun j p hj => by simpa using hr (j + 1) p (by simpa using hj)) h x hx
    · cases h
theorem RV.mapv_inv {id : Nat} {u : Value} (h : RV C (.map id) u) : u = .map (some (C.ι id)) ∧ id < C.nx := by cases h; exact ⟨rfl, by assumption⟩
theorem RV.nilmv_inv {u : Value} (h : RV C .nilm u) : u = .map none := by cases h; rfl
theorem akey_spec {kt : TypeId} {k : AVal} {kv : Value} (hk : RV C k kv) (h : akey P kt k = true) : ∃ d, P.underlying kt = some d ∧ ((∃ k, d = .int k) ∨ d = .string ∨ d = .bool) ∧ keyFit d k ∧ ∀ (e : Bool) (n : Nat) (w : World), (Instr.checkKey e (n + 1) kt kv).run P w = .ok () w := by
  unfold akey at h
  split at h
  · rename_i hd
    obtain rfl := hk.int_inv
    exact ⟨_, hd, .inl ⟨_, rfl⟩, trivial, fun e n w => by unfold Instr.checkKey; simp [run_underlying hd]⟩
  · rename_i hd
    obtain rfl := hk.str_inv
    exact ⟨_, hd, .inr (.inl rfl), trivial, fun e n w => by unfold Instr.checkKey; simp [run_underlying hd]⟩
  · rename_i hd
    obtain rfl := hk.bool_inv
    exact ⟨_, hd, .inr (.inr rfl), trivial, fun e n w => by unfold Instr.checkKey; simp [run_underlying hd]⟩
  · cases h
theorem aok_rv {ok b : Bool} {v : AVal} {u : Value} (h : RV C v u) : RV C (aok ok b v) (if ok = true then .tuple #[u, .bool b] else u) := by
  unfold aok
  cases ok with
  | false => exact h
  | true =>
    simp only [if_true]
    have := RV.tup (C := C) [v, .bool b] [u, .bool b] rfl (fun i a x ha hx => by
      rcases i with _ | _ | i
      · simp at ha hx; subst ha hx; exact h
      · simp at ha hx; subst ha hx; exact .bool b
      · simp at ha)
    simpa using this
theorem sound_lookup (h : HOk C B F w0 hp) (t : TypeId) {m k : AVal} {mv kv : Value} (hm : RV C m mv) (hk : RV C k kv) (ok : Bool) {r : AVal} (hr : alookup P t m k ok hp = some r) : ∃ z, (Instr.lookup t mv kv ok).run P C.w = .ok z C.w ∧ RV C r z := by
  unfold alookup at hr
  split at hr
  rotate_left
  · cases hr
  rename_i kt et hu
  split at hr
  rotate_left
  · cases hr
  rename_i hkey
  obtain ⟨d, hd, hd1, hda, hck⟩ := akey_spec hk hkey
  have hzero : ∀ {r : AVal}, (azero P et).map (aok ok false) = some r → ∃ z, (zeroValue et).run P C.w = .ok z C.w ∧ RV C r (if ok = true then .tuple #[z, .bool false] else z) := by
    intro r hz
    obtain ⟨a, ha, rfl⟩ := Option.map_eq_some_iff.1 hz
    unfold azero at ha
    obtain ⟨z, hz', rfl⟩ := Option.map_eq_some_iff.1 ha
    obtain ⟨i, hi, hiz⟩ := Option.bind_eq_some_iff.1 hz'
    exact ⟨z, by simp [zeroValue, typeInfo, hi, hiz], aok_rv (.ofVal z)⟩
  split at hr
  · obtain rfl := hm.nilmv_inv
    obtain ⟨z, hz, hrv⟩ := hzero hr
    refine ⟨_, ?_, hrv⟩
    have hf : (Instr.findKey kt kv []).run P C.w = .ok none C.w := MapKept.run_findKey hd rfl
    simp [Instr.lookup, run_underlying hu, hck, hf, hz]
  · rename_i id
    obtain ⟨rfl, hid⟩ := hm.mapv_inv
    split at hr
    rotate_left
    · cases hr
    rename_i es hg
    obtain ⟨ents, clk, hb, hl, _, hrel⟩ := h.mapb id es hg
    have hfr := find_rel hk hd1 hda es ents.toList 0 (by simpa using hl) (fun j p hj => by
      obtain ⟨x, q1, q2, q3⟩ := hrel j p hj
      exact ⟨x, by simpa using q1, q2, q3⟩)
    have hobj : (getObj (C.ι id)).run P C.w = .ok (.map ents clk) C.w := MapKept.run_getObj_map hb
    split at hr
    · rename_i j v he
      cases hr
      obtain ⟨x, q1, _, _, q4, _⟩ := hfr _ he
      have hf : (Instr.findKey kt kv ents.toList).run P C.w = .ok (some (j, x.val)) C.w := MapKept.run_findKey hd q1
      exact ⟨if ok = true then .tuple #[x.val, .bool true] else x.val, by simp [Instr.lookup, run_underlying hu, hobj, hck, hf], aok_rv q4⟩
    · rename_i he
      obtain ⟨z, hz, hrv⟩ := hzero hr
      have q1 := hfr _ he
      have hf : (Instr.findKey kt kv ents.toList).run P C.w = .ok none C.w := MapKept.run_findKey hd q1
      exact ⟨_, by simp [Instr.lookup, run_underlying hu, hobj, hck, hf, hz], hrv⟩
    · cases hr
  · cases hr
def Cx.setMap (C : Cx) (r : Nat) (ents : Array MapEntry) (clk : Nat) : Cx := { C with w := { C.w with heap := C.w.heap.setIfInBounds r (.map ents clk) } }
theorem WRel.setMap (h : WRel C B F w0 hp tm ct) {id : Nat} {es es' : List (AVal × AVal)} (hid : hget hp id = some (.map es)) (ents' : Array MapEntry) (clk' : Nat) (hl : ents'.size = es'.length) (hst : Stamped ents' clk')
    (hrel : ∀ (i : Nat) (p : AVal × AVal), es'[i]? = some p → ∃ x, ents'[i]? = some x ∧ RV C p.1 x.key ∧ RV C p.2 x.val) : C.Le (C.setMap (C.ι id) ents' clk') ∧ WRel (C.setMap (C.ι id) ents' clk') B F w0 (hset hp id (.map es')) tm ct := by
  obtain ⟨ents, clk, hb, _, _, _⟩ := h.heap.mapb id es hid
  have hs : (hget hp id).isSome = true := by rw [hid]; rfl
  obtain ⟨g1, g2⟩ := heap_set (o' := .map ents' clk') hb
  obtain ⟨o1, o2, o3⟩ := h.heap.out id hs
  have hother : ∀ k, k ≠ C.ι id → (C.setMap (C.ι id) ents' clk').w.heap[k]? = C.w.heap[k]? := g2
  have hcell : ∀ b o, b ≠ C.ι id → (C.setMap (C.ι id) ents' clk').w.cell? ⟨b, o, none⟩ = C.w.cell? ⟨b, o, none⟩ := fun b o hk => World.cell?_of_block (hother b hk)
  have hfroz : ∀ b o, b ≠ C.ι id → (C.setMap (C.ι id) ents' clk').w.frozen? ⟨b, o, none⟩ = C.w.frozen? ⟨b, o, none⟩ := fun b o hk => World.frozen?_of_block (hother b hk)
  have hno : ∀ b o u, C.w.cell? ⟨b, o, none⟩ = some u → b ≠ C.ι id := fun b o u hu e => by
    subst e
    simp [World.cell?, hb] at hu
  have le : C.Le (C.setMap (C.ι id) ents' clk') := ⟨Nat.le_refl _, fun _ _ => rfl, fun _ _ h => h, fun b o hI => hcell b o (fun e => (o3 o).1 (e ▸ hI)), fun b o u hu => ⟨u, (hcell b o (hno b o u hu)).trans hu⟩⟩
  have hget' : ∀ j, hget (hset hp id (.map es')) j = if j = id then some (.map es') else hget hp j := fun j => by rw [hget_hset]; simp [hs]
  have hsome : ∀ j, (hget (hset hp id (.map es')) j).isSome = (hget hp j).isSome := fun j => by
    rw [hget']
    split
    · rename_i e; subst e; rw [hs]; rfl
    · rfl
  have hne : ∀ j, j ≠ id → (hget hp j).isSome = true → C.ι j ≠ C.ι id := fun j hj hjs e => hj (h.heap.inj j id hjs hs e)
  have hown : ∀ k v cv, Owned (C.setMap (C.ι id) ents' clk') (hset hp id (.map es')) tm ct k v cv → Owned C hp tm ct k v cv := by
    intro k v cv ho
    obtain ⟨i, t⟩ := k
    cases i with
    | zero => exact ho
    | succ j =>
      obtain ⟨cs', vs', ty', h1, h2, h3, h4⟩ := ho
      rw [hget'] at h1
      split at h1
      · cases h1
      · rename_i e
        have hj : (hget hp j).isSome = true := by rw [h1]; rfl
        have h3' : (C.setMap (C.ι id) ents' clk').w.heap[C.ι j]? = some (.cells vs' ty' (0, 0)) := h3
        rw [hother _ (hne j e hj)] at h3'
        exact ⟨cs', vs', ty', h1, h2, h3', h4⟩
  refine ⟨le, ⟨⟨h.heap.below.os, h.heap.below.tape, h.heap.below.output, ?_, fun k hk => ?_⟩, h.heap.base, fun j hj => h.heap.ids j (by rw [← hsome]; exact hj), fun j cs hj => ?_, fun i j a b => h.heap.inj i j (by rw [← hsome]; exact a) (by rw [← hsome]; exact b), fun i a => ?_, fun b o hI => ?_, fun b o hF => ?_, fun j ess hj => ?_⟩, h.size, fun t c ht => ?_, fun k v cv hk => ?_, fun k1 k2 v1 c1 v2 c2 h1 h2 => h.sep k1 k2 v1 c1 v2 c2 (hown _ _ _ h1) (hown _ _ _ h2)⟩
  · show w0.heap.size ≤ (C.w.heap.setIfInBounds _ _).size
    rw [Array.size_setIfInBounds]; exact h.heap.below.size
  · exact (hother k (by omega)).trans (h.heap.below.block k hk)
  · rw [hget'] at hj
    split at hj
    · cases hj
    · rename_i e
      have hjs : (hget hp j).isSome = true := by rw [hj]; rfl
      obtain ⟨vs', ty', q1, q2, q3⟩ := h.heap.blk j cs hj
      refine ⟨vs', ty', (hother _ (hne j e hjs)).trans q1, q2, fun i c hi => ?_⟩
      obtain ⟨r1, v, r2, r3⟩ := q3 i c hi
      exact ⟨r1, v, r2, r3.mono le⟩
  · obtain ⟨q1, q2, q3⟩ := h.heap.out i (by rw [← hsome]; exact a)
    refine ⟨q1, ?_, q3⟩
    show _ < (C.w.heap.setIfInBounds _ _).size
    rw [Array.size_setIfInBounds]; exact q2
  · obtain ⟨u, hu⟩ := h.heap.imm b o hI
    exact ⟨u, (hcell b o (hno b o u hu)).trans hu⟩
  · obtain ⟨⟨u, hu⟩, q0, q⟩ := h.heap.far b o hF
    exact ⟨⟨u, (hcell b o (hno b o u hu)).trans hu⟩, (hfroz b o (hno b o u hu)).trans q0, q⟩
  · rw [hget'] at hj
    split at hj
    · rename_i e
      subst e
      cases hj
      refine ⟨ents', clk', g1, hl, hst, fun i p hp => ?_⟩
      obtain ⟨x, q1, q2, q3⟩ := hrel i p hp
      exact ⟨x, q1, q2.mono le, q3.mono le⟩
    · rename_i e
      have hjs : (hget hp j).isSome = true := by rw [hj]; rfl
      exact (h.heap.mapb j ess hj).mono le (hother _ (hne j e hjs))
  · obtain ⟨v, q1, q2⟩ := h.tmp t c ht
    exact ⟨v, q1, q2.mono le⟩
  · have q := h.own k v cv (hown k v cv hk)
    refine ⟨q.form, fun b o t => ?_⟩
    obtain ⟨a1, a2, a3, a4, ⟨u, a5⟩, a6⟩ := q.cells b o t
    have hb' := hno b o u a5
    exact ⟨a1, a2, a3, fun j hj => a4 j (by rw [← hsome]; exact hj), ⟨u, (hcell b o hb').trans a5⟩, (hfroz b o hb').trans a6⟩
def Cx.newMap (C : Cx) : Cx := { ι := fun i => if i = C.nx then C.w.heap.size else C.ι i, I := C.I, nx := C.nx + 1, w := C.w.alloc (.map #[] 0) }
theorem WRel.newMap (h : WRel C B F w0 hp tm ct) : C.Le C.newMap ∧ WRel C.newMap B F w0 ((C.nx, .map []) :: hp) tm ct ∧ RV C.newMap (.map C.nx) (.map (some C.w.heap.size)) := by
  have g : Grow C C.newMap := ⟨below_alloc' _ _, Nat.le_succ _, fun i hi => by simp [Cx.newMap]; omega, fun _ _ h => h, fun _ _ h => .inl h, fun b o hI hb => by
    obtain ⟨u, hu⟩ := h.heap.imm b o hI
    have := cell_lt hu
    omega⟩
  have le := h.heap.le g
  have hD := h.grow g
  have hB : B ≤ C.w.heap.size := Nat.le_trans h.heap.base h.heap.below.size
  have hιn : C.newMap.ι C.nx = C.w.heap.size := by simp [Cx.newMap]
  have hιo : ∀ i, (hget hp i).isSome = true → C.newMap.ι i = C.ι i := fun i hi => g.map i (h.heap.ids i hi)
  have hno : hget hp C.nx = none := by
    cases e : hget hp C.nx with
    | none => rfl
    | some b => exact absurd (h.heap.ids C.nx (by rw [e]; rfl)) (Nat.lt_irrefl _)
  have hgn : hget ((C.nx, ABlk.map []) :: hp) C.nx = some (.map []) := by simp [hget]
  have hgo : ∀ i, i ≠ C.nx → hget ((C.nx, ABlk.map []) :: hp) i = hget hp i := fun i hi => by simp [hget, hi]
  have hown : ∀ k v cv, Owned C.newMap ((C.nx, .map []) :: hp) tm ct k v cv → Owned C.newMap hp tm ct k v cv := by
    intro k v cv ho
    obtain ⟨i, t⟩ := k
    cases i with
    | zero => exact ho
    | succ id =>
      obtain ⟨cs', vs', ty', h1, h2⟩ := ho
      by_cases e : id = C.nx
      · subst e; rw [hgn] at h1; cases h1
      · rw [hgo id e] at h1; exact ⟨cs', vs', ty', h1, h2⟩
  refine ⟨le, ⟨⟨hD.heap.below, hD.heap.base, fun i hi => ?_, fun id cs' hg' => ?_, fun i j hi hj e => ?_, fun i hi => ?_, hD.heap.imm, hD.heap.far, fun id es hg => ?_⟩, h.size, hD.tmp, fun k v cv ho => ?_, fun k1 k2 v1 c1 v2 c2 h1 h2 => hD.sep k1 k2 v1 c1 v2 c2 (hown _ _ _ h1) (hown _ _ _ h2)⟩, ?_⟩
  · by_cases e : i = C.nx
    · subst e; exact Nat.lt_succ_self _
    · rw [hgo i e] at hi; exact Nat.lt_succ_of_lt (h.heap.ids i hi)
  · by_cases e : id = C.nx
    · subst e; rw [hgn] at hg'; cases hg'
    · rw [hgo id e] at hg'; exact hD.heap.blk id cs' hg'
  · by_cases ei : i = C.nx
    · by_cases ej : j = C.nx
      · rw [ei, ej]
      · rw [hgo j ej] at hj
        rw [ei, hιn, hιo j hj] at e
        have := (h.heap.out j hj).2.1
        omega
    · rw [hgo i ei] at hi
      by_cases ej : j = C.nx
      · rw [ej, hιn, hιo i hi] at e
        have := (h.heap.out i hi).2.1
        omega
      · rw [hgo j ej] at hj
        exact hD.heap.inj i j hi hj e
  · by_cases e : i = C.nx
    · subst e
      rw [hιn]
      refine ⟨hB, by simp [Cx.newMap], fun o => ⟨fun hI => ?_, fun hF => ?_⟩⟩
      · obtain ⟨u, hu⟩ := h.heap.imm _ _ hI
        exact absurd (cell_lt hu) (Nat.lt_irrefl _)
      · obtain ⟨⟨u, hu⟩, _⟩ := h.heap.far _ _ hF
        exact absurd (cell_lt hu) (Nat.lt_irrefl _)
    · rw [hgo i e] at hi; exact hD.heap.out i hi
  · by_cases e : id = C.nx
    · subst e
      rw [hgn] at hg; cases hg
      exact ⟨#[], 0, by rw [hιn]; exact alloc_at _ _, rfl, stamped_empty 0, fun i p hp => by simp at hp⟩
    · rw [hgo id e] at hg; exact hD.heap.mapb id es hg
  · have q := hD.own k v cv (hown k v cv ho)
    refine ⟨q.form, fun b o t => ?_⟩
    obtain ⟨a1, a2, a3, a4, a5, a6⟩ := q.cells b o t
    refine ⟨a1, a2, a3, fun id hid => ?_, a5, a6⟩
    by_cases e : id = C.nx
    · subst e
      rw [hιn]
      have hc : Owned C hp tm ct k v cv := (hown k v cv ho).back h.heap g
      obtain ⟨_, _, _, _, ⟨u, hu⟩, _⟩ := (h.own k v cv hc).cells b o t
      have := cell_lt hu
      omega
    · rw [hgo id e] at hid; exact a4 id hid
  · have := RV.map (C := C.newMap) C.nx (Nat.lt_succ_self _)
    rwa [hιn] at this
theorem sameBits_key {d : TypeDesc} {k : AVal} {kv : Value} (hk : RV C k kv) (h : keyFit d k) : Instr.sameBits 10000 kv kv = true := by
  unfold keyFit at h
  split at h
  · obtain rfl := hk.int_inv; simp [Instr.sameBits]
  · obtain rfl := hk.str_inv; simp only [Instr.sameBits]; exact (bytes_beq _ _).2 rfl
  · obtain rfl := hk.bool_inv; simp [Instr.sameBits]
  · exact h.elim
theorem sound_mapset (h : WRel C B F w0 hp tm ct) (lo : Nat) (t : TypeId) {m k v : AVal} {mv kv vv : Value} (hm : RV C m mv) (hk : RV C k kv) (hv : RV C v vv) {hp' : Heap} (hr : amapset P lo t m k v hp = some hp') :
    ∃ D : Cx, (Instr.mapUpdate t mv kv vv).run P C.w = .ok () D.w ∧ C.Le D ∧ D.nx = C.nx ∧ WRel D B F w0 hp' tm ct := by
  unfold amapset at hr
  split at hr
  rotate_left
  · cases hr
  rename_i kt et hu
  split at hr
  rotate_left
  · cases hr
  rename_i hkey
  obtain ⟨d, hd, hd1, hda, hck⟩ := akey_spec hk hkey
  split at hr
  rotate_left
  · cases hr
  rename_i id
  obtain ⟨rfl, hid⟩ := hm.mapv_inv
  split at hr
  rotate_left
  · cases hr
  rename_i es hg
  obtain ⟨ents, clk, hb, hl, hst, hrel⟩ := h.heap.mapb id es hg
  have hfr := find_rel hk hd1 hda es ents.toList 0 (by simpa using hl) (fun j p hj => by
    obtain ⟨x, q1, q2, q3⟩ := hrel j p hj
    exact ⟨x, by simpa using q1, q2, q3⟩)
  have hobj : (getObj (C.ι id)).run P C.w = .ok (.map ents clk) C.w := MapKept.run_getObj_map hb
  have hset : ∀ o, (setObj (C.ι id) o).run P C.w = .ok () { C.w with heap := C.w.heap.setIfInBounds (C.ι id) o } := fun o => MapKept.run_setObj_map o hb
  split at hr
  rotate_left
  · cases hr
  split at hr
  · rename_i j v' he
    cases hr
    obtain ⟨x, q1, _, q3, _, q5⟩ := hfr _ he
    have hf : (Instr.findKey kt kv ents.toList).run P C.w = .ok (some (j, x.val)) C.w := MapKept.run_findKey hd q1
    have hx : ents[j]? = some x := by simpa using q3
    obtain ⟨le, hW⟩ := h.setMap hg (ents.modify j fun e => { e with key := kv, val := vv }) clk (by simpa using hl) (stamped_modify hst _ _ (fun _ _ => rfl) fun e _ he => by rw [hx] at he; cases he; exact q5.symm) (es' := es.set j (k, v)) (fun i p hp => by
      rw [List.getElem?_set] at hp
      rw [Array.getElem?_modify]
      by_cases e : j = i
      · subst e
        rw [if_pos rfl] at hp
        split at hp
        · cases hp
          rw [if_pos rfl, hx]
          exact ⟨_, rfl, hk, hv⟩
        · cases hp
      · rw [if_neg e] at hp
        rw [if_neg e]
        exact hrel i p hp)
    refine ⟨_, ?_, le, rfl, hW⟩
    simp [Instr.mapUpdate, run_underlying hu, hobj, hck, hf, hx, q5, Instr.keyThatStays, sameBits_key hk hda, hset, Cx.setMap]
  · rename_i he
    cases hr
    have q1 := hfr _ he
    have hf : (Instr.findKey kt kv ents.toList).run P C.w = .ok none C.w := MapKept.run_findKey hd q1
    obtain ⟨le, hW⟩ := h.setMap hg (ents.push { key := kv, val := vv, born := clk }) (clk + 1) (by simpa using hl) (stamped_push hst (find_none hk es ents.toList 0 (by simpa using hl) (fun j p hj => by
      obtain ⟨x, q1, q2, q3⟩ := hrel j p hj
      exact ⟨x, by simpa using q1, q2⟩) he)) (es' := es ++ [(k, v)]) (fun i p hp => by
      rcases Nat.lt_or_ge i es.length with hlt | hge
      · rw [List.getElem?_append_left hlt] at hp
        obtain ⟨x, q1, q2, q3⟩ := hrel i p hp
        exact ⟨x, by rw [Array.getElem?_push, if_neg (by omega)]; exact q1, q2, q3⟩
      · rw [List.getElem?_append_right hge] at hp
        have := (List.getElem?_eq_some_iff.1 hp).1
        simp at this
        rw [show i - es.length = 0 by omega] at hp
        simp at hp; subst hp
        exact ⟨_, by rw [Array.getElem?_push, if_pos (by omega)], hk, hv⟩)
    refine ⟨_, ?_, le, rfl, hW⟩
    simp [Instr.mapUpdate, run_underlying hu, hobj, hck, hf, hset, Cx.setMap]
  · cases hr
end
end Go.Proofs.YtkpfkadjmijmlaaGreatDoor.M
/- The machine is right, operation by operation (5): all that call nothing. -/
namespace Go.Proofs.YtkpfkadjmijmlaaGreatDoor.M
open Go.RowKit
set_option linter.unusedVariables false
set_option linter.unusedSimpArgs false

section
variable {P : Program} {C : Cx} {B : Nat} {F : Nat → Nat → Prop} {w0 : World} {hp : Heap} {tm : List Cell} {ct : Array Value}

theorem arr_map {α β : Type} (a : Array α) (f : α → β) : (a.toList.map f).toArray = a.map f := by apply Array.ext'; simp
theorem run_value {s : Sem Value} {w w' : World} {z : Value} (h : s.run P w = .ok z w') : (do pure (Next.value (← s)) : Sem Next).run P w = .ok (.value z) w' := by simp [h]
theorem run_unit {s : Sem Unit} {w w' : World} (h : s.run P w = .ok () w') : (do s; pure Next.skip : Sem Next).run P w = .ok .skip w' := by simp [h]
theorem headOk_all {xs : List AVal} {n sz : Nat} (h : headOk xs n = true) (hs : ∀ x, x ∈ xs → x.flat.length = sz) : xs = [] ∨ sz = n := by
  cases xs with
  | nil => exact .inl rfl
  | cons x r =>
    simp [headOk] at h
    exact .inr (by rw [← hs x (List.mem_cons_self ..), h])
/-- A part of a list. -/
theorem RV.sub {xs : List AVal} {A : Option Addr} {c sz l h : Nat} (hr : RV C (.lst xs) (.slice A xs.length c)) (hk : headOk xs sz = true) (hlh : l ≤ h) (hh : h ≤ xs.length) :
    RV C (.lst ((xs.take h).drop l)) (.slice (if c = l then A else A.map (·.add (l * sz))) (h - l) (c - l)) := by
  obtain ⟨A', c', sz', e, hc, hz, hs, h1, vs, hvl, hvm, hvr⟩ := hr.lst_inv
  injection e with e1 _ e2; subst e1 e2
  have hlen : ((xs.take h).drop l).length = h - l := by rw [List.length_drop, List.length_take]; omega
  have hmem : ∀ x, x ∈ (xs.take h).drop l → x ∈ xs := fun x hx => List.mem_of_mem_take (List.mem_of_mem_drop hx)
  rcases headOk_all hk hs with e0 | e0
  · subst e0
    have hh0 : h = 0 := by simpa using hh
    have hl0 : l = 0 := by omega
    subst hh0 hl0
    exact RV.lst_mk (sz := 1) (by simp) (fun q => absurd (by simp) q) (fun x hx => by simp at hx) (fun u hu => by simp [flats] at hu) [] (by simp [flats]) (fun i v hi => by simp at hi) (fun i u v hu => by simp [flats] at hu)
  · subst e0
    have hsplit : flats xs = flats (xs.take l) ++ (flats ((xs.take h).drop l) ++ flats (xs.drop h)) := by
      have e : xs = xs.take l ++ ((xs.take h).drop l ++ xs.drop h) := by
        have h1 : xs.take h = (xs.take h).take l ++ (xs.take h).drop l := (List.take_append_drop l _).symm
        rw [List.take_take, Nat.min_eq_left hlh] at h1
        rw [← List.append_assoc, ← h1, List.take_append_drop]
      rw [← flats_append, ← flats_append, ← e]
    have hll : (flats (xs.take l)).length = l * sz' := by
      rw [flats_len (sz := sz') fun x hx => hs x (List.mem_of_mem_take hx), List.length_take, Nat.min_eq_left (by omega)]
    have hml : (flats ((xs.take h).drop l)).length = (h - l) * sz' := by rw [flats_len (sz := sz') fun x hx => hs x (hmem x hx), hlen]
    have hat : ∀ i, i < (h - l) * sz' → (flats ((xs.take h).drop l))[i]? = (flats xs)[l * sz' + i]? := fun i hi => by
      rw [hsplit, List.getElem?_append_right (by omega), List.getElem?_append_left (by omega), hll]
      congr 1; omega
    have := RV.lst_mk (C := C) (xs := (xs.take h).drop l) (A := if c = l then A else A.map (·.add (l * sz'))) (c := c - l) (sz := sz') (by omega) (fun hne => hz fun q => hne (by rw [q]; simp)) (fun x hx => hs x (hmem x hx))
      (fun u hu => h1 u (by rw [hsplit]; simp [hu])) ((vs.drop (l * sz')).take ((h - l) * sz')) (by
        rw [List.length_take, List.length_drop, hvl, hml, flats_len hs]
        have : h * sz' ≤ xs.length * sz' := Nat.mul_le_mul_right _ hh
        rw [Nat.mul_sub_right_distrib] at *
        omega) (fun i v hi => by
        rw [List.getElem?_take] at hi
        split at hi
        · rename_i hlt
          rw [List.getElem?_drop] at hi
          obtain ⟨b, o, e1, e2, e3⟩ := hvm _ v hi
          subst e1
          have hcl : ¬ c = l := fun q => by
            have : h = l := by omega
            subst this; simp at hlt
          refine ⟨b, o + l * sz', by rw [if_neg hcl]; simp [add_at], ?_, ?_⟩
          · rw [Nat.add_assoc]; exact e2
          · rw [Nat.add_assoc]; exact e3
        · cases hi) (fun i u v hu hv => by
        rw [List.getElem?_take] at hv
        split at hv
        · rename_i hlt
          rw [List.getElem?_drop] at hv
          rw [hat i hlt] at hu
          exact hvr _ u v hu hv
        · cases hv)
    rwa [hlen] at this
theorem RV.cap {xs : List AVal} {A : Option Addr} {n c c' : Nat} (hr : RV C (.lst xs) (.slice A n c)) (hc : n ≤ c') : RV C (.lst xs) (.slice A n c') := by
  cases hr with
  | lst _ _ _ sz cu hc0 hz hs h1 hm h => exact .lst xs A c' sz cu hc hz hs h1 hm h
theorem RV.sub3 {xs : List AVal} {A : Option Addr} {c sz l h m : Nat} (hr : RV C (.lst xs) (.slice A xs.length c)) (hk : headOk xs sz = true) (hlh : l ≤ h) (hh : h ≤ m) (hm : m ≤ xs.length) :
    RV C (.lst ((xs.take h).drop l)) (.slice (if m = l then A else A.map (·.add (l * sz))) (h - l) (m - l)) := by
  have h1 := hr.sub (l := 0) hk (Nat.zero_le m) hm
  have hlen : (xs.take m).length = m := by rw [List.length_take]; omega
  have h2 : RV C (.lst (xs.take m)) (.slice A (xs.take m).length m) := by
    have e : (if c = 0 then A else A.map (·.add (0 * sz))) = A := by
      split
      · rfl
      · cases A with
        | none => rfl
        | some a => simp [Addr.add]
    rw [e, List.drop_zero, Nat.sub_zero, Nat.sub_zero] at h1
    rw [hlen]
    exact h1.cap (Nat.le_refl _)
  have hk' : headOk (xs.take m) sz = true := by
    cases xs with
    | nil => rw [List.take_nil]; rfl
    | cons x r =>
      cases m with
      | zero => rfl
      | succ m => exact hk
  have h3 := h2.sub hk' hlh (by rw [hlen]; exact hh)
  rwa [List.take_take, Nat.min_eq_left hh] at h3
theorem own_full {B : Nat} {F : Nat → Nat → Prop} {hp : Heap} {xs : List AVal} {A : Option Addr} (hr : RV C (.lst xs) (.slice A xs.length xs.length)) : OwnOk C B F hp (.lst xs) (.slice A xs.length xs.length) ∧ ∀ b o, ¬ Tail (.lst xs) (.slice A xs.length xs.length) b o := by
  have ht : ∀ b o, ¬ Tail (.lst xs) (.slice A xs.length xs.length) b o := by
    rintro b o ⟨ys, a, n, c, x, r, h1, h2, h3, _, h5, h6⟩
    obtain ⟨A', c', sz, _, _, _, hs, _⟩ := hr.lst_inv
    injection h1 with h1
    injection h2 with _ _ h2
    subst h1
    rw [flats_len hs] at h5
    rw [hs x (by rw [h3]; exact List.mem_cons_self ..), ← h2] at h6
    omega
  exact ⟨⟨⟨xs, A, _, _, rfl, rfl, fun e => by rw [e]; rfl⟩, fun b o t => absurd t (ht b o)⟩, ht⟩
def optB (o : Option Value) (s : Value → Sem Nat) (d : Nat) : Sem Nat := match o with
  | some v => s v
  | none => pure d
theorem run_bound {code : BoundsCode} {a : AVal} {u : Value} {d most n : Nat} (hu : RV C a u) (h : M.bound (some a) d most = some n) : (Instr.sliceBound u most code).run P C.w = .ok n C.w ∧ n ≤ most := by
  cases a <;> (try simp only [M.bound] at h) <;> try (cases h; done)
  rename_i k i
  obtain rfl := hu.int_inv
  split at h
  · rename_i hi
    injection h with h; subst h
    refine ⟨?_, by omega⟩
    simp [Instr.sliceBound, asIntOf, hi]
  · cases h
theorem run_bounds {isSlice : Bool} {len cap : Nat} {lo hi : Option AVal} {lov hiv : Option Value} (hlo : ∀ a, lo = some a → ∃ u, lov = some u ∧ RV C a u) (hlo' : lo = none → lov = none) (hhi : ∀ a, hi = some a → ∃ u, hiv = some u ∧ RV C a u) (hhi' : hi = none → hiv = none)
    (hlc : len ≤ cap) {l h : Nat} (e1 : M.bound hi len len = some h) (e2 : M.bound lo 0 h = some l) : (Instr.sliceBounds isSlice len cap lov hiv none).run P C.w = .ok (l, h, cap) C.w ∧ l ≤ h ∧ h ≤ len := by
  have mono : ∀ a n, M.bound (some a) len len = some n → M.bound (some a) len cap = some n ∧ n ≤ len := by
    intro a n h
    cases a <;> (try simp only [M.bound] at h) <;> try (cases h; done)
    rename_i k i
    split at h
    · rename_i hi
      simp only [M.bound]
      rw [if_pos (by omega)]
      injection h with h
      exact ⟨by rw [h], by omega⟩
    · cases h
  have hH : (optB hiv (fun v => Instr.sliceBound v cap (if isSlice then .sliceAcap else .sliceAlen)) len).run P C.w = .ok h C.w ∧ h ≤ len := by
    cases hi with
    | none => rw [hhi' rfl]; simp only [M.bound] at e1; injection e1 with e1; subst e1; exact ⟨rfl, Nat.le_refl _⟩
    | some a =>
      obtain ⟨u, hu, hr⟩ := hhi a rfl
      obtain ⟨m1, m2⟩ := mono a h e1
      rw [hu]
      exact ⟨(run_bound hr m1).1, m2⟩
  have hL : (optB lov (fun v => Instr.sliceBound v h .sliceB) 0).run P C.w = .ok l C.w ∧ l ≤ h := by
    cases lo with
    | none => rw [hlo' rfl]; simp only [M.bound] at e2; injection e2 with e2; subst e2; exact ⟨rfl, Nat.zero_le _⟩
    | some a =>
      obtain ⟨u, hu, hr⟩ := hlo a rfl
      rw [hu]
      exact run_bound hr e2
  refine ⟨?_, hL.2, hH.2⟩
  have h1 := hH.1
  have h2 := hL.1
  clear hH hL hlo hlo' hhi hhi' e1 e2 mono
  cases hiv <;> cases lov <;> simp_all [Instr.sliceBounds, optB]
theorem run_bounds3 {len cap : Nat} {lo : Option AVal} {hv mv : AVal} {lov : Option Value} {hu mu : Value} (hlo : ∀ a, lo = some a → ∃ u, lov = some u ∧ RV C a u) (hlo' : lo = none → lov = none) (hh : RV C hv hu) (hm : RV C mv mu) {l h m : Nat} (e0 : M.bound (some mv) 0 cap = some m)
    (e1 : M.bound (some hv) 0 m = some h) (e2 : M.bound lo 0 h = some l) : (Instr.sliceBounds true len cap lov (some hu) (some mu)).run P C.w = .ok (l, h, m) C.w ∧ l ≤ h ∧ h ≤ m := by
  have h0 := (run_bound (P := P) (code := .slice3Acap) hm e0).1
  obtain ⟨h1, h1'⟩ := run_bound (P := P) (code := .slice3B) hh e1
  have hL : (optB lov (fun v => Instr.sliceBound v h .slice3C) 0).run P C.w = .ok l C.w ∧ l ≤ h := by
    cases lo with
    | none => rw [hlo' rfl]; simp only [M.bound] at e2; injection e2 with e2; subst e2; exact ⟨rfl, Nat.zero_le _⟩
    | some a =>
      obtain ⟨u, hu, hr⟩ := hlo a rfl
      rw [hu]
      exact run_bound hr e2
  refine ⟨?_, hL.2, h1'⟩
  have h2 := hL.1
  clear hL hlo hlo' hh hm e0 e1 e2
  cases lov <;> simp_all [Instr.sliceBounds, optB]
theorem sound_slice (t : TypeId) {a : AVal} {u : Value} (hu : RV C a u) {lo hi mx : Option AVal} {lov hiv mxv : Option Value} (hlo : ∀ a, lo = some a → ∃ u, lov = some u ∧ RV C a u) (hlo' : lo = none → lov = none) (hhi : ∀ a, hi = some a → ∃ u, hiv = some u ∧ RV C a u) (hhi' : hi = none → hiv = none)
    (hmx : ∀ a, mx = some a → ∃ u, mxv = some u ∧ RV C a u) (hmx' : mx = none → mxv = none) {r : AVal} (h : aslice P t a lo hi mx = some r) : ∃ z, (Instr.sliceAt t u lov hiv mxv).run P C.w = .ok z C.w ∧ RV C r z ∧ ((clipOwn hi mx r = true ∨ (a.nilL = true ∧ ∃ A n, u = .slice A n 0)) → ∃ xs A, r = .lst xs ∧ z = .slice A xs.length xs.length) := by
  unfold aslice at h
  split at h
  · rename_i s hd
    rw [hmx' rfl]
    obtain rfl := hu.str_inv
    cases hb : M.bound hi s.size s.size with
    | none => rw [hb] at h; cases h
    | some hh =>
      rw [hb] at h
      obtain ⟨l, hl, rfl⟩ := Option.map_eq_some_iff.1 h
      obtain ⟨hrun, _, _⟩ := run_bounds (P := P) (isSlice := false) hlo hlo' hhi hhi' (Nat.le_refl s.size) hb hl
      exact ⟨.string (s.extract l hh), by simp [Instr.sliceAt, Instr.slice, run_underlying hd, hrun], .str _, fun q => by
        rcases q with q | ⟨q, _⟩
        · cases hi <;> cases q
        · cases q⟩
  · rename_i xs e hd
    rw [hmx' rfl]
    split at h
    · rename_i hc
      obtain ⟨hk, hz⟩ := hc
      obtain ⟨ie, hie, _⟩ := info_of_size hz
      obtain ⟨A, c, sz, rfl, hcl, _⟩ := hu.lst_inv
      cases hb : M.bound hi xs.length xs.length with
      | none => rw [hb] at h; cases h
      | some hh =>
        rw [hb] at h
        obtain ⟨l, hl, rfl⟩ := Option.map_eq_some_iff.1 h
        obtain ⟨hrun, h1, h2⟩ := run_bounds (P := P) (isSlice := true) hlo hlo' hhi hhi' hcl hb hl
        exact ⟨_, by simp [Instr.sliceAt, Instr.slice, run_underlying hd, hrun, run_sizeT hie], hu.sub hk h1 h2, fun q => by
          rcases q with q | ⟨q1, A', n', q2⟩
          · cases hi <;> cases q
          · obtain rfl : xs = [] := by cases xs with | nil => rfl | cons _ _ => cases q1
            injection q2 with _ _ q2
            subst q2
            have e0 : hh - l = 0 := by simp only [List.length_nil] at h2; omega
            exact ⟨[], _, by simp, by rw [e0, Nat.zero_sub]; rfl⟩⟩
    · cases h
  · rename_i id off len sz ag e hd
    rw [hmx' rfl]
    split at h
    · rename_i hc
      obtain ⟨rfl, hz⟩ := hc
      obtain ⟨ie, hie, _⟩ := info_of_size hz
      obtain ⟨c, rfl, hid, hcl, hx⟩ := hu.sl_inv
      cases hb : M.bound hi len len with
      | none => rw [hb] at h; cases h
      | some hh =>
        rw [hb] at h
        obtain ⟨l, hl, rfl⟩ := Option.map_eq_some_iff.1 h
        obtain ⟨hrun, h1, h2⟩ := run_bounds (P := P) (isSlice := true) hlo hlo' hhi hhi' hcl hb hl
        refine ⟨.slice (if c = l then some ⟨C.ι id, off, none⟩ else some ((⟨C.ι id, off, none⟩ : Addr).add (l * sizeT P e))) (hh - l) (c - l), by simp [Instr.sliceAt, Instr.slice, run_underlying hd, hrun, run_sizeT hie], ?_, fun q => by
          rcases q with q | ⟨q, _⟩
          · cases hi <;> cases q
          · cases q⟩
        split
        · rename_i hlen
          have e1 : (if c = l then some (⟨C.ι id, off, none⟩ : Addr) else some ((⟨C.ι id, off, none⟩ : Addr).add (l * sizeT P e))) = some ⟨C.ι id, off + l * sizeT P e, none⟩ := by
            split
            · have : l = 0 := by omega
              subst this; simp
            · simp [add_at]
          rw [e1]
          refine .sl id _ _ _ _ ag hid (by omega) fun o ho => hx o ?_
          rw [Nat.sub_mul] at ho
          have := Nat.mul_le_mul_right (sizeT P e) (show l ≤ c by omega)
          omega
        · rename_i hlen
          have e1 : hh - l = 0 := by omega
          rw [e1]
          exact RV.lst_mk (xs := []) (sz := 1) (by simp) (fun q => absurd rfl q) (fun x hx => by simp at hx) (fun u hu => by simp [flats] at hu) [] (by simp [flats]) (fun i v hi => by simp at hi) (fun i u v hu => by simp [flats] at hu)
    · cases h
  · rename_i k m xs e hd
    split at h
    · rename_i hc
      obtain ⟨hs, hk, hz, hm0, hml⟩ := hc
      obtain ⟨ie, hie, _⟩ := info_of_size hz
      obtain ⟨A, c, sz, rfl, hcl, _⟩ := hu.lst_inv
      obtain ⟨hv, rfl⟩ := Option.isSome_iff_exists.1 hs
      obtain ⟨hu', rfl, hhr⟩ := hhi hv rfl
      obtain ⟨mu', rfl, hmr⟩ := hmx _ rfl
      cases hb : M.bound (some hv) 0 m.toNat with
      | none => rw [hb] at h; cases h
      | some hh =>
        rw [hb] at h
        obtain ⟨l, hl, rfl⟩ := Option.map_eq_some_iff.1 h
        obtain ⟨hrun, h1, h2⟩ := run_bounds3 (P := P) (len := xs.length) (cap := c) hlo hlo' hhr hmr (m := m.toNat) (by simp only [M.bound]; rw [if_pos (by omega)]) hb hl
        refine ⟨_, by simp [Instr.sliceAt, Instr.slice, run_underlying hd, hrun, run_sizeT hie], hu.sub3 hk h1 h2 (by omega), fun q => ?_⟩
        rcases q with q | ⟨q1, A', n', q2⟩
        rotate_left
        · obtain rfl : xs = [] := by cases xs with | nil => rfl | cons _ _ => cases q1
          have hml' : m ≤ 0 := hml
          have e0 : hh - l = 0 := by omega
          have e2 : m.toNat - l = 0 := by omega
          exact ⟨[], _, by simp, by rw [e0, e2]; rfl⟩
        have e1 : hh = m.toNat := by
          cases hv <;> first | (cases q; done) | skip
          rename_i kh nh
          have q1 : nh = m := by simpa [clipOwn] using q
          subst q1
          simp only [M.bound] at hb
          split at hb
          · injection hb with hb; exact hb.symm
          · cases hb
        have e2 : ((xs.take hh).drop l).length = hh - l := by rw [List.length_drop, List.length_take]; omega
        exact ⟨_, _, rfl, by rw [e2, e1]⟩
    · cases h
  · rename_i k m id off len sz ag e hd
    split at h
    · rename_i hc
      obtain ⟨hs, rfl, hz, hm0, hml⟩ := hc
      obtain ⟨ie, hie, _⟩ := info_of_size hz
      obtain ⟨c, rfl, hid, hcl, hx⟩ := hu.sl_inv
      obtain ⟨hv, rfl⟩ := Option.isSome_iff_exists.1 hs
      obtain ⟨hu', rfl, hhr⟩ := hhi hv rfl
      obtain ⟨mu', rfl, hmr⟩ := hmx _ rfl
      cases hb : M.bound (some hv) 0 m.toNat with
      | none => rw [hb] at h; cases h
      | some hh =>
        rw [hb] at h
        obtain ⟨l, hl, rfl⟩ := Option.map_eq_some_iff.1 h
        obtain ⟨hrun, h1, h2⟩ := run_bounds3 (P := P) (len := len) (cap := c) hlo hlo' hhr hmr (m := m.toNat) (by simp only [M.bound]; rw [if_pos (by omega)]) hb hl
        refine ⟨.slice (if m.toNat = l then some ⟨C.ι id, off, none⟩ else some ((⟨C.ι id, off, none⟩ : Addr).add (l * sizeT P e))) (hh - l) (m.toNat - l), by simp [Instr.sliceAt, Instr.slice, run_underlying hd, hrun, run_sizeT hie], ?_, fun q => ?_⟩
        · split
          · rename_i hlen
            have e1 : (if m.toNat = l then some (⟨C.ι id, off, none⟩ : Addr) else some ((⟨C.ι id, off, none⟩ : Addr).add (l * sizeT P e))) = some ⟨C.ι id, off + l * sizeT P e, none⟩ := by
              split
              · have : l = 0 := by omega
                subst this; simp
              · simp [add_at]
            rw [e1]
            refine .sl id _ _ _ _ ag hid (by omega) fun o ho => hx o ?_
            rw [Nat.sub_mul] at ho
            have k1 := Nat.mul_le_mul_right (sizeT P e) (show l ≤ m.toNat by omega)
            have k2 := Nat.mul_le_mul_right (sizeT P e) (show m.toNat ≤ c by omega)
            omega
          · rename_i hlen
            have e1 : hh - l = 0 := by omega
            rw [e1]
            exact RV.lst_mk (xs := []) (sz := 1) (by simp) (fun q => absurd rfl q) (fun x hx => by simp at hx) (fun u hu => by simp [flats] at hu) [] (by simp [flats]) (fun i v hi => by simp at hi) (fun i u v hu => by simp [flats] at hu)
        · rcases q with q | ⟨q, _⟩
          rotate_left
          · cases q
          split at q
          · cases hv <;> cases q
          · rename_i hlen
            have e0 : hh - l = 0 := by omega
            have e2 : m.toNat - l = 0 := by omega
            exact ⟨[], _, if_neg hlen, by rw [e0, e2]; rfl⟩
    · cases h
  · cases h
theorem nil_cap {tm : List Cell} {ct : Array Value} (h : WRel C B F w0 hp tm ct) (x : Operand) (ds : List Deferred) (h2 : (ev tm x).2 = true) (hn : (ev tm x).1.nilL = true) : ∃ A n, Act.eval ⟨ct, ds⟩ x = .slice A n 0 := by
  cases x with
  | tmp t =>
    simp only [M.ev, Act.eval] at h2 hn ⊢
    cases ht : tm[t]? with
    | none => rw [ht] at h2; cases h2
    | some c =>
      rw [ht] at h2 hn
      obtain ⟨v, f⟩ := c
      obtain rfl : f = true := h2
      obtain ⟨u, hu, hr⟩ := h.tmp t _ ht
      have : ct.getD t undef = u := by
        have hlt := (Array.getElem?_eq_some_iff.1 hu).1
        have he := (Array.getElem?_eq_some_iff.1 hu).2
        simp [Array.getD, hlt, he]
      rw [this]
      obtain ⟨xs, A, n, c, rfl, rfl, q⟩ := (h.own (0, t) v u ⟨ht, hu⟩).form
      have q' := q (by have := nilL_eq hn; injection this)
      exact ⟨A, n, by rw [q']⟩
  | const u =>
    simp only [M.ev] at h2
    unfold isNil at h2
    split at h2
    · exact ⟨_, _, rfl⟩
    · cases h2
  | func f => cases h2
  | global g => cases h2
theorem opt_map {tm : List Cell} {ct : Array Value} (h : WRel C B F w0 hp tm ct) (ds : List Deferred) (x : Option Operand) : (∀ a, (x.map fun x => (ev tm x).1) = some a → ∃ u, x.map (Act.eval ⟨ct, ds⟩) = some u ∧ RV C a u) ∧ ((x.map fun x => (ev tm x).1) = none → x.map (Act.eval ⟨ct, ds⟩) = none) := by
  cases x with
  | none => exact ⟨fun a h => (by cases h), fun _ => rfl⟩
  | some x => exact ⟨fun a e => by injection e with e; subst e; exact ⟨_, rfl, h.ev x ds⟩, fun e => (by cases e)⟩
theorem map_fst {α β γ : Type} (l : List (α × β)) (f : β → γ) : (l.map fun p => (p.1, f p.2)).map (·.1) = l.map (·.1) := by rw [List.map_map]; rfl
/-- All operations that call nothing. -/
theorem sound_aeff0 (h : WRel C B F w0 hp tm ct) (ds : List Deferred) (ops : Array Oper) (ro : Md) (o : Oper) {q : Out} (hq : aeff0 P ops ro o (ev tm) C.nx hp = some q) : Done C B F w0 tm ⟨ct, ds⟩ o.dst q ((execOp (Act.eval ⟨ct, ds⟩) o).run P C.w) := by
  obtain ⟨dst, op, type, pos, after, guard⟩ := o
  cases op <;> (try simp only [aeff0] at hq) <;> try (cases hq; done)
  case move x =>
    split at hq
    · unfold acut at hq
      injection hq with hq; subst hq
      have hz := h.ev x ds
      rw [show (execOp (Act.eval ⟨ct, ds⟩) ⟨dst, .move x, type, pos, after, guard⟩).run P C.w = .ok (.value (Act.eval ⟨ct, ds⟩ x)) C.w from rfl]
      cases hf : ((ev tm x).2 && (ev tm x).1.nilL) with
      | false => exact done_val h ds dst hz
      | true =>
        rw [Bool.and_eq_true] at hf
        obtain ⟨A, n, e⟩ := nil_cap h x ds hf.1 hf.2
        have hv := nilL_eq hf.2
        rw [hv, e] at hz
        obtain ⟨A', c', sz, e2, _⟩ := hz.lst_inv
        injection e2 with _ e2 _
        subst e2
        obtain ⟨o1, o2⟩ := own_full (B := B) (F := F) (hp := hp) (xs := []) hz
        rw [e, hv]
        refine ⟨C, _, _, rfl, .inl rfl, Cx.Le.refl C, rfl, ?_, put_defers _ _ _⟩
        cases dst with
        | none => exact h
        | some d => exact h.puto d hz o1 (fun k v' cv' _ _ b o t => absurd t (o2 b o))
    · exact sound_move h ds dst _ x hq
  case assign x => exact sound_move h ds dst _ x hq
  case pick c a b =>
    have hc := h.ev c ds
    cases hv : (ev tm c).1 <;> rw [hv] at hq hc <;> (try simp only at hq) <;> try (cases hq; done)
    rename_i k
    injection hq with hq; subst hq
    have hcv := hc.bool_inv
    have : (execOp (Act.eval ⟨ct, ds⟩) ⟨dst, .pick c a b, type, pos, after, guard⟩).run P C.w = .ok (.value (if k then Act.eval ⟨ct, ds⟩ a else Act.eval ⟨ct, ds⟩ b)) C.w := by simp [execOp, hcv, asBool]
    rw [this]
    refine done_val h ds dst ?_
    cases k
    · exact h.ev b ds
    · exact h.ev a ds
  case alloc t =>
    cases hi : P.info? t with
    | none => rw [hi] at hq; cases hq
    | some i =>
      rw [hi] at hq
      simp only [Option.bind_some] at hq
      cases hz : i.zero with
      | none => rw [hz] at hq; cases hq
      | some z =>
        rw [hz] at hq
        simp only at hq
        split at hq
        · rename_i h1
          injection hq with hq; subst hq
          obtain ⟨v, w, hrun, hdone⟩ := sound_alloc (P := P) h ds dst t hi hz h1
          rw [show execOp (Act.eval ⟨ct, ds⟩) ⟨dst, .alloc t, type, pos, after, guard⟩ = (do pure (Next.value (← Instr.alloc t true (.tuple #[])))) from rfl, run_value hrun]
          exact hdone
        · cases hq
  case box t x =>
    split at hq
    · rename_i h1
      injection hq with hq; subst hq
      obtain ⟨v, w, hrun, hdone⟩ := sound_box (P := P) h ds dst t (h.ev x ds) h1
      rw [show execOp (Act.eval ⟨ct, ds⟩) ⟨dst, .box t x, type, pos, after, guard⟩ = (do pure (Next.value (← Instr.box t (Act.eval ⟨ct, ds⟩ x)))) from rfl, run_value hrun]
      exact hdone
    · cases hq
  case build t ps =>
    obtain ⟨r, hr, rfl⟩ := val_some hq
    obtain ⟨z, hrun, hz⟩ := sound_build (P := P) (C := C) _ t (ps.toList.map fun p => (p.1, (ev tm p.2).1)) (ps.toList.map fun p => (p.1, Act.eval ⟨ct, ds⟩ p.2)) (by simp) (fun i p q hp hq => by
      rw [List.getElem?_map] at hp hq
      obtain ⟨y, hy, rfl⟩ := Option.map_eq_some_iff.1 hp
      rw [hy] at hq; injection hq with hq; subst hq
      exact h.ev y.2 ds) hr
    have e : execOp (Act.eval ⟨ct, ds⟩) ⟨dst, .build t ps, type, pos, after, guard⟩ = (do pure (Next.value (← Instr.build t (ps.toList.map fun p => (p.1, Act.eval ⟨ct, ds⟩ p.2)).toArray))) := by
      rw [arr_map]; rfl
    rw [e, run_value hrun]
    exact done_val h ds dst hz
  case buildSlice t len ps =>
    cases hu : P.underlying t with
    | none => rw [hu] at hq; cases hq
    | some d =>
      rw [hu] at hq
      cases d <;> (try simp only at hq) <;> try (cases hq; done)
      rename_i el
      split at hq
      · rename_i hc
        obtain ⟨c1, c2, c3, c4, c5, c6⟩ := hc
        rw [← apply_ite some] at hq
        injection hq with hq; subst hq
        obtain ⟨r, hrun, hdone⟩ := sound_buildSlice (P := P) h ds dst t el len (ps.toList.map fun p => (p.1, (ev tm p.2).1)) (ps.toList.map fun p => (p.1, Act.eval ⟨ct, ds⟩ p.2)) hu (by simp) (fun i p q hp hq => by
          rw [List.getElem?_map] at hp hq
          obtain ⟨y, hy, rfl⟩ := Option.map_eq_some_iff.1 hp
          rw [hy] at hq; injection hq with hq; subst hq
          exact h.ev y.2 ds) c1 c2 c3 (fun p hp => by
          have := List.all_eq_true.1 c4 p hp
          simp only [Bool.and_eq_true, beq_iff_eq] at this
          exact this) c5 c6 (ro.mu.contains t) ((isAggT P el).getD false)
        have e : execOp (Act.eval ⟨ct, ds⟩) ⟨dst, .buildSlice t len ps, type, pos, after, guard⟩ = (do pure (Next.value (← Instr.buildSlice t len (ps.toList.map fun p => (p.1, Act.eval ⟨ct, ds⟩ p.2)).toArray))) := by
          rw [arr_map]; rfl
        rw [e]
        cases r with
        | ok v w => rw [run_value hrun]; exact hdone
        | halt x w => obtain ⟨D, n, u, hh, _⟩ := hdone; cases hh
      · cases hq
  case load t a =>
    obtain ⟨v, hrun, hdone⟩ := sound_load (P := P) h ds dst ops ro t (h.ev a ds) hq
    rw [show execOp (Act.eval ⟨ct, ds⟩) ⟨dst, .load t a, type, pos, after, guard⟩ = (do pure (Next.value (← Instr.loadAt t (Act.eval ⟨ct, ds⟩ a)))) from rfl, run_value hrun]
    exact hdone
  case makeMap t r =>
    cases r with
    | some x => cases hq
    | none =>
      simp only at hq
      split at hq
      · cases hq
        obtain ⟨le, hW, hr⟩ := h.newMap
        have hrun : (Instr.makeMap t none).run P C.w = .ok (.map (some C.w.heap.size)) (C.w.alloc (.map #[] 0)) := rfl
        rw [show execOp (Act.eval ⟨ct, ds⟩) ⟨dst, .makeMap t none, type, pos, after, guard⟩ = (do pure (Next.value (← Instr.makeMap t none))) from rfl, run_value hrun]
        exact done_mk (D := C.newMap) ds dst (.inl rfl) le rfl rfl (fun _ => hW) (fun d _ => hW.put d hr)
      · cases hq
  case lookup t m k ok =>
    obtain ⟨r, hr, rfl⟩ := val_some hq
    obtain ⟨z, hz, hrv⟩ := sound_lookup (P := P) h.heap t (h.ev m ds) (h.ev k ds) ok hr
    rw [show execOp (Act.eval ⟨ct, ds⟩) ⟨dst, .lookup t m k ok, type, pos, after, guard⟩ = (do pure (Next.value (← Instr.lookup t (Act.eval ⟨ct, ds⟩ m) (Act.eval ⟨ct, ds⟩ k) ok))) from rfl, run_value hz]
    exact done_val h ds dst hrv
  case insert t m k v =>
    obtain ⟨hp', hh, rfl⟩ := Option.map_eq_some_iff.1 hq
    obtain ⟨D, hrun, le, hx, hW⟩ := sound_mapset (P := P) h ro.lo t (h.ev m ds) (h.ev k ds) (h.ev v ds) hh
    rw [show execOp (Act.eval ⟨ct, ds⟩) ⟨dst, .insert t m k v, type, pos, after, guard⟩ = (do Instr.mapUpdate t (Act.eval ⟨ct, ds⟩ m) (Act.eval ⟨ct, ds⟩ k) (Act.eval ⟨ct, ds⟩ v); pure Next.skip) from rfl]
    simp only [Sem.run_bind, hrun, Result.andThen_ok, Sem.run_pure]
    exact done_mk ds dst (u := undef) (.inr ⟨rfl, rfl⟩) le hx rfl (fun _ => hW) (fun d _ => hW.put d (RV.tup [] [] rfl (fun i a v hi => by simp at hi)))
  case mapUpdate t m k v =>
    obtain ⟨hp', hh, rfl⟩ := Option.map_eq_some_iff.1 hq
    obtain ⟨D, hrun, le, hx, hW⟩ := sound_mapset (P := P) h ro.lo t (h.ev m ds) (h.ev k ds) (h.ev v ds) hh
    rw [show execOp (Act.eval ⟨ct, ds⟩) ⟨dst, .mapUpdate t m k v, type, pos, after, guard⟩ = (do Instr.mapUpdate t (Act.eval ⟨ct, ds⟩ m) (Act.eval ⟨ct, ds⟩ k) (Act.eval ⟨ct, ds⟩ v); pure Next.skip) from rfl]
    simp only [Sem.run_bind, hrun, Result.andThen_ok, Sem.run_pure]
    exact done_mk ds dst (u := undef) (.inr ⟨rfl, rfl⟩) le hx rfl (fun _ => hW) (fun d _ => hW.put d (RV.tup [] [] rfl (fun i a v hi => by simp at hi)))
  case store t a x =>
    obtain ⟨w, hrun, hdone⟩ := sound_store (P := P) h ds dst ops ro t (h.ev a ds) x hq
    rw [show execOp (Act.eval ⟨ct, ds⟩) ⟨dst, .store t a x, type, pos, after, guard⟩ = (do Instr.storeAt t (Act.eval ⟨ct, ds⟩ a) (Act.eval ⟨ct, ds⟩ x); pure Next.skip) from rfl, run_unit hrun]
    exact hdone
  case nilCheck x =>
    have hx := h.ev x ds
    cases hv : (ev tm x).1 <;> rw [hv] at hq hx <;> (try simp only at hq) <;> try (cases hq; done)
    all_goals (injection hq with hq; subst hq)
    · have e := hx.ptr_inv.1
      rw [show (execOp (Act.eval ⟨ct, ds⟩) ⟨dst, .nilCheck x, type, pos, after, guard⟩).run P C.w = .ok (.value (Act.eval ⟨ct, ds⟩ x)) C.w by simp [execOp, e]]
      exact done_val h ds dst hx
    · obtain ⟨b, o, e, _⟩ := hx.pel_inv
      rw [show (execOp (Act.eval ⟨ct, ds⟩) ⟨dst, .nilCheck x, type, pos, after, guard⟩).run P C.w = .ok (.value (Act.eval ⟨ct, ds⟩ x)) C.w by simp [execOp, e]]
      exact done_val h ds dst hx
    · obtain ⟨fv, cv, e, _⟩ := hx.clo_inv
      rw [show (execOp (Act.eval ⟨ct, ds⟩) ⟨dst, .nilCheck x, type, pos, after, guard⟩).run P C.w = .ok (.value (Act.eval ⟨ct, ds⟩ x)) C.w by simp [execOp, e]]
      exact done_val h ds dst hx
  case binOp op t x y u =>
    obtain ⟨r, hr, rfl⟩ := val_some hq
    obtain ⟨z, hrun, hz⟩ := sound_binZ (P := P) ds op t x y (h.ev x ds) (h.ev y ds) hr
    rw [show execOp (Act.eval ⟨ct, ds⟩) ⟨dst, .binOp op t x y u, type, pos, after, guard⟩ = (do pure (Next.value (← (do eqGuard op t x y (Act.eval ⟨ct, ds⟩ x) (Act.eval ⟨ct, ds⟩ y); binOp op t (Act.eval ⟨ct, ds⟩ x) (Act.eval ⟨ct, ds⟩ y) : Sem Value)))) from rfl, run_value hrun]
    exact done_val h ds dst hz
  case unOp op t x =>
    obtain ⟨r, hr, rfl⟩ := val_some hq
    obtain ⟨z, hrun, hz⟩ := sound_un (P := P) op (h.ev x ds) hr
    rw [show execOp (Act.eval ⟨ct, ds⟩) ⟨dst, .unOp op t x, type, pos, after, guard⟩ = (do pure (Next.value (← Op.unary op (Act.eval ⟨ct, ds⟩ x)))) from rfl, run_value hrun]
    exact done_val h ds dst hz
  case makeFunc fn a b =>
    cases fn <;> (try simp only at hq) <;> try (cases hq; done)
    rename_i f
    injection hq with hq; subst hq
    rw [show (execOp (Act.eval ⟨ct, ds⟩) ⟨dst, .makeFunc (.func f) a b, type, pos, after, guard⟩).run P C.w = .ok (.value (.func (.func f) (a.map (Act.eval ⟨ct, ds⟩)) (b.map (Act.eval ⟨ct, ds⟩)))) C.w from rfl]
    refine done_val h ds dst ?_
    have := RV.clo (C := C) f (a.toList.map fun x => (ev tm x).1) (b.toList.map fun x => (ev tm x).1) (a.toList.map (Act.eval ⟨ct, ds⟩)) (b.toList.map (Act.eval ⟨ct, ds⟩)) (by simp) (by simp) (fun i y u hy hu => by
      rw [List.getElem?_map] at hy hu
      obtain ⟨x, hx, rfl⟩ := Option.map_eq_some_iff.1 hy
      rw [hx] at hu; injection hu with hu; subst hu
      exact h.ev x ds) (fun i y u hy hu => by
      rw [List.getElem?_map] at hy hu
      obtain ⟨x, hx, rfl⟩ := Option.map_eq_some_iff.1 hy
      rw [hx] at hu; injection hu with hu; subst hu
      exact h.ev x ds)
    rw [arr_map, arr_map] at this
    exact this
  case slice t x lo hi mx =>
    obtain ⟨r, hr, rfl⟩ := Option.map_eq_some_iff.1 hq
    have hl := opt_map h ds lo
    have hh := opt_map h ds hi
    have hm := opt_map h ds mx
    obtain ⟨z, hrun, hz, hcl⟩ := sound_slice (P := P) t (h.ev x ds) hl.1 hl.2 hh.1 hh.2 hm.1 hm.2 hr
    rw [show execOp (Act.eval ⟨ct, ds⟩) ⟨dst, .slice t x lo hi mx, type, pos, after, guard⟩ = (do pure (Next.value (← Instr.sliceAt t (Act.eval ⟨ct, ds⟩ x) (lo.map (Act.eval ⟨ct, ds⟩)) (hi.map (Act.eval ⟨ct, ds⟩)) (mx.map (Act.eval ⟨ct, ds⟩))))) from rfl, run_value hrun]
    cases hco : clipOwn (hi.map fun x => (ev tm x).1) (mx.map fun x => (ev tm x).1) r || nilC ro.mu t (ev tm x) with
    | false => simp only [clipped, hco]; exact done_val h ds dst hz
    | true =>
      obtain ⟨xs, A, rfl, rfl⟩ := hcl (by
        rcases Bool.or_eq_true_iff.1 hco with q | q
        · exact .inl q
        · simp only [nilC, Bool.and_eq_true] at q
          exact .inr ⟨q.2.2, nil_cap h x ds q.2.1 q.2.2⟩)
      obtain ⟨o1, o2⟩ := own_full (B := B) (F := F) (hp := hp) hz
      simp only [clipped, hco]
      refine ⟨C, _, _, rfl, .inl rfl, Cx.Le.refl C, rfl, ?_, put_defers _ _ _⟩
      cases dst with
      | none => exact h
      | some d => exact h.puto d hz o1 (fun k v' cv' _ _ b o t => absurd t (o2 b o))
  case fieldAddr t x f =>
    obtain ⟨r, hr, rfl⟩ := val_some hq
    obtain ⟨z, hrun, hz⟩ := sound_field_addr (P := P) t f (h.ev x ds) hr
    rw [show execOp (Act.eval ⟨ct, ds⟩) ⟨dst, .fieldAddr t x f, type, pos, after, guard⟩ = (do pure (Next.value (← Instr.fieldAt t (Act.eval ⟨ct, ds⟩ x) f))) from rfl, run_value hrun]
    exact done_val h ds dst hz
  case field t x f =>
    obtain ⟨r, hr, rfl⟩ := val_some hq
    obtain ⟨z, hrun, hz⟩ := sound_field (P := P) t f (h.ev x ds) hr
    rw [show execOp (Act.eval ⟨ct, ds⟩) ⟨dst, .field t x f, type, pos, after, guard⟩ = (do pure (Next.value (← Instr.field t (Act.eval ⟨ct, ds⟩ x) f))) from rfl, run_value hrun]
    exact done_val h ds dst hz
  case indexAddr t x i =>
    obtain ⟨r, hr, rfl⟩ := val_some hq
    obtain ⟨z, hrun, hz⟩ := sound_index_addr (P := P) t (h.ev x ds) (h.ev i ds) hr
    rw [show execOp (Act.eval ⟨ct, ds⟩) ⟨dst, .indexAddr t x i, type, pos, after, guard⟩ = (do pure (Next.value (← Instr.indexAt t (Act.eval ⟨ct, ds⟩ x) (Act.eval ⟨ct, ds⟩ i)))) from rfl, run_value hrun]
    exact done_val h ds dst hz
  case index t x i =>
    obtain ⟨r, hr, rfl⟩ := val_some hq
    obtain ⟨z, hrun, hz⟩ := sound_index (P := P) t (h.ev x ds) (h.ev i ds) hr
    rw [show execOp (Act.eval ⟨ct, ds⟩) ⟨dst, .index t x i, type, pos, after, guard⟩ = (do pure (Next.value (← Instr.index t (Act.eval ⟨ct, ds⟩ x) (Act.eval ⟨ct, ds⟩ i)))) from rfl, run_value hrun]
    exact done_val h ds dst hz
  case extract x i =>
    have hx := h.ev x ds
    cases hv : (ev tm x).1 <;> rw [hv] at hq hx <;> (try simp only at hq) <;> try (cases hq; done)
    rename_i cs
    obtain ⟨r, hr, rfl⟩ := val_some hq
    obtain ⟨vs, e, hl, hrr⟩ := hx.tup_inv
    have hlt := (List.getElem?_eq_some_iff.1 hr).1
    have hg : vs[i]? = some (vs[i]'(by omega)) := List.getElem?_eq_getElem (by omega)
    have hrun : (Instr.extract (Act.eval ⟨ct, ds⟩ x) i).run P C.w = .ok (vs[i]'(by omega)) C.w := by rw [e]; simp [Instr.extract, hg]
    rw [show execOp (Act.eval ⟨ct, ds⟩) ⟨dst, .extract x i, type, pos, after, guard⟩ = (do pure (Next.value (← Instr.extract (Act.eval ⟨ct, ds⟩ x) i))) from rfl, run_value hrun]
    exact done_val h ds dst (hrr i r _ hr hg)
end
end Go.Proofs.YtkpfkadjmijmlaaGreatDoor.M
/- append to arrays that change. -/
namespace Go.Proofs.YtkpfkadjmijmlaaGreatDoor.M
open Go.RowKit
set_option linter.unusedVariables false
set_option linter.unusedSimpArgs false

theorem hget_hdel0 (h : Heap) (id j : Nat) : hget (hdel h id) j = if j = id then none else hget h j := by
  induction h with
  | nil => simp [hdel, hget]
  | cons p h ih =>
    obtain ⟨i, b⟩ := p
    have e : hdel ((i, b) :: h) id = if i = id then hdel h id else (i, b) :: hdel h id := by
      unfold hdel
      rw [List.filter_cons]
      by_cases hi : i = id <;> simp [hi]
    rw [e]
    by_cases hi : i = id
    · rw [if_pos hi, ih]
      subst hi
      by_cases hj : j = i
      · simp [hj]
      · simp [hj, hget]
    · rw [if_neg hi]
      simp only [hget]
      by_cases hj : j = i
      · subst hj; simp [hi]
      · rw [if_neg hj, if_neg hj, ih]
theorem hget_hlow (h : Heap) (n j : Nat) : hget (hlow n h) j = if j < n then hget h j else none := by
  induction h with
  | nil => simp [hlow, hget]
  | cons p h ih =>
    obtain ⟨i, b⟩ := p
    have e : hlow n ((i, b) :: h) = if i < n then (i, b) :: hlow n h else hlow n h := by
      unfold hlow
      rw [List.filter_cons]
      by_cases hi : i < n <;> simp [hi]
    rw [e]
    by_cases hi : i < n
    · rw [if_pos hi]
      simp only [hget]
      by_cases hj : j = i
      · subst hj; simp [hi]
      · rw [if_neg hj, if_neg hj, ih]
    · rw [if_neg hi, ih]
      simp only [hget]
      by_cases hj : j = i
      · subst hj; simp [hi]
      · rw [if_neg hj]
section
variable {P : Program} {C : Cx} {B : Nat} {F : Nat → Nat → Prop} {w0 : World} {hp : Heap} {tm : List Cell} {ct : Array Value}
/-- Fewer variables are told of. -/
theorem WRel.fewer (h : WRel C B F w0 hp tm ct) {hp' : Heap} (hs : ∀ i b, hget hp' i = some b → hget hp i = some b) : WRel C B F w0 hp' tm ct := by
  have hs' : ∀ i, (hget hp' i).isSome = true → (hget hp i).isSome = true := fun i hi => by
    obtain ⟨b, hb⟩ := Option.isSome_iff_exists.1 hi
    rw [hs i b hb]; rfl
  have ho : ∀ k v cv, Owned C hp' tm ct k v cv → Owned C hp tm ct k v cv := by
    intro k v cv ho
    obtain ⟨i, t⟩ := k
    cases i with
    | zero => exact ho
    | succ id => obtain ⟨cs, vs, ty, h1, h2⟩ := ho; exact ⟨cs, vs, ty, hs id _ h1, h2⟩
  exact ⟨⟨h.heap.below, h.heap.base, fun id hid => h.heap.ids id (hs' id hid), fun id cs hc => h.heap.blk id cs (hs id _ hc), fun i j a b => h.heap.inj i j (hs' i a) (hs' j b), fun i a => h.heap.out i (hs' i a), h.heap.imm, h.heap.far, fun id es hg => h.heap.mapb id es (hs id _ hg)⟩,
    h.size, h.tmp, fun k v cv hk => let q := h.own k v cv (ho k v cv hk); ⟨q.form, fun b o t => let ⟨a1, a2, a3, a4, a5, a6⟩ := q.cells b o t; ⟨a1, a2, a3, fun id hid => a4 id (hs' id hid), a5, a6⟩⟩,
    fun k1 k2 v1 c1 v2 c2 h1 h2 => h.sep k1 k2 v1 c1 v2 c2 (ho _ _ _ h1) (ho _ _ _ h2)⟩
theorem WRel.hdel (h : WRel C B F w0 hp tm ct) (id : Nat) : WRel C B F w0 (hdel hp id) tm ct := h.fewer fun i b hb => by
  rw [hget_hdel0] at hb
  split at hb
  · cases hb
  · exact hb
def Cx.adopt (C : Cx) (b off : Nat) (vs : List Value) : Cx := { ι := fun i => if i = C.nx then b else C.ι i, I := C.I, nx := C.nx + 1, w := C.w.setCells b off vs }
/-- A block that nobody tells of is written, and is told of under a new number. -/
theorem WRel.adopt (h : WRel C B F w0 hp tm ct) (b off : Nat) (vs : List Value) {vs0 : Array Value} {ty : TypeId} (hb : C.w.heap[b]? = some (.cells vs0 ty (0, 0))) (hB : B ≤ b) (hfree : ∀ i, (hget hp i).isSome = true → C.ι i ≠ b) (hIF : ∀ o, ¬ C.I b o ∧ ¬ F b o)
    (htl : ∀ k v cv, Owned C hp tm ct k v cv → ∀ o, ¬ Tail v cv b o) (cs : List AVal) (hl : cs.length ≤ vs0.size) (hc : ∀ (i : Nat) a, cs[i]? = some a → a.one = true ∧ ∃ v, (setsA vs0 off vs)[i]? = some v ∧ RV C a v) :
    C.Le (C.adopt b off vs) ∧ WRel (C.adopt b off vs) B F w0 ((C.nx, .cells (unown cs)) :: hp) tm ct := by
  have hn : (C.adopt b off vs).ι C.nx = b := by simp [Cx.adopt]
  have ho : ∀ i, i < C.nx → (C.adopt b off vs).ι i = C.ι i := fun i hi => by simp [Cx.adopt]; omega
  have hoi : ∀ i, (hget hp i).isSome = true → (C.adopt b off vs).ι i = C.ι i := fun i hi => ho i (h.heap.ids i hi)
  have hother : ∀ k, k ≠ b → (C.adopt b off vs).w.heap[k]? = C.w.heap[k]? := fun k hk => setCells_other _ _ hk _ _ _
  have hsame : (C.adopt b off vs).w.heap[b]? = some (.cells (setsA vs0 off vs) ty (0, 0)) := setCells_block _ _ _ _ hb
  have hcell : ∀ b' o, b' ≠ b → (C.adopt b off vs).w.cell? ⟨b', o, none⟩ = C.w.cell? ⟨b', o, none⟩ := fun b' o hk => World.cell?_of_block (hother b' hk)
  have hfroz : ∀ b' o, b' ≠ b → (C.adopt b off vs).w.frozen? ⟨b', o, none⟩ = C.w.frozen? ⟨b', o, none⟩ := fun b' o hk => World.frozen?_of_block (hother b' hk)
  have hIb : ∀ b' o, C.I b' o → b' ≠ b := fun b' o hI e => (hIF o).1 (e ▸ hI)
  have le : C.Le (C.adopt b off vs) := ⟨Nat.le_succ _, ho, fun _ _ h => h, fun b' o hI => hcell b' o (hIb b' o hI), fun b' o u hu => cell_setCells_ex _ _ _ _ hu⟩
  have hno : hget hp C.nx = none := by
    cases e : hget hp C.nx with
    | none => rfl
    | some b => exact absurd (h.heap.ids C.nx (by rw [e]; rfl)) (Nat.lt_irrefl _)
  have hgn : hget ((C.nx, ABlk.cells (unown cs)) :: hp) C.nx = some (.cells (unown cs)) := by simp [hget]
  have hgo : ∀ i, i ≠ C.nx → hget ((C.nx, ABlk.cells (unown cs)) :: hp) i = hget hp i := fun i hi => by simp [hget, hi]
  have hbl : b < C.w.heap.size := (Array.getElem?_eq_some_iff.1 hb).1
  have hown : ∀ k v cv, Owned (C.adopt b off vs) ((C.nx, .cells (unown cs)) :: hp) tm ct k v cv → Owned C hp tm ct k v cv := by
    intro k v cv ho'
    obtain ⟨i, t⟩ := k
    cases i with
    | zero => exact ho'
    | succ id =>
      obtain ⟨cs', vs', ty', h1, h2, h3, h4⟩ := ho'
      by_cases e : id = C.nx
      · subst e
        rw [hgn] at h1; injection h1 with h1; injection h1 with h1; subst h1
        simp only [unown, List.getElem?_map] at h2
        obtain ⟨y, _, hy⟩ := Option.map_eq_some_iff.1 h2
        cases hy
      · rw [hgo id e] at h1
        have his : (hget hp id).isSome = true := by rw [h1]; rfl
        rw [hoi id his, hother _ (hfree id his)] at h3
        exact ⟨cs', vs', ty', h1, h2, h3, h4⟩
  refine ⟨le, ⟨below_setCells b hB vs off _ h.heap.below, h.heap.base, fun i hi => ?_, fun id cs' hg' => ?_, fun i j hi hj e => ?_, fun i hi => ?_, fun b' o hI => ?_, fun b' o hF => ?_, fun id es hg => (by
    by_cases e : id = C.nx
    · subst e; rw [hgn] at hg; cases hg
    · rw [hgo id e] at hg
      have his : (hget hp id).isSome = true := by rw [hg]; rfl
      exact (h.heap.mapb id es hg).mono le (by rw [hoi id his]; exact hother _ (hfree id his)))⟩, h.size, fun t c ht => ?_, fun k v cv hk => ?_, fun k1 k2 v1 c1 v2 c2 h1 h2 => h.sep k1 k2 v1 c1 v2 c2 (hown _ _ _ h1) (hown _ _ _ h2)⟩
  · by_cases e : i = C.nx
    · subst e; exact Nat.lt_succ_self _
    · rw [hgo i e] at hi; exact Nat.lt_succ_of_lt (h.heap.ids i hi)
  · by_cases e : id = C.nx
    · subst e
      rw [hgn] at hg'; injection hg' with hg'; injection hg' with hg'; subst hg'
      refine ⟨_, ty, by rw [hn]; exact hsame, by simpa [unown, setsA_size] using hl, fun i c hi => ?_⟩
      simp only [unown, List.getElem?_map] at hi
      obtain ⟨y, hy, rfl⟩ := Option.map_eq_some_iff.1 hi
      obtain ⟨q1, v, q2, q3⟩ := hc i y hy
      exact ⟨q1, v, q2, q3.mono le⟩
    · rw [hgo id e] at hg'
      have his : (hget hp id).isSome = true := by rw [hg']; rfl
      obtain ⟨vs', ty', q1, q2, q3⟩ := h.heap.blk id cs' hg'
      refine ⟨vs', ty', by rw [hoi id his, hother _ (hfree id his)]; exact q1, q2, fun i c hi => ?_⟩
      obtain ⟨r1, v, r2, r3⟩ := q3 i c hi
      exact ⟨r1, v, r2, r3.mono le⟩
  · by_cases ei : i = C.nx
    · by_cases ej : j = C.nx
      · rw [ei, ej]
      · rw [hgo j ej] at hj
        rw [ei, hn, hoi j hj] at e
        exact absurd e.symm (hfree j hj)
    · rw [hgo i ei] at hi
      by_cases ej : j = C.nx
      · rw [ej, hn, hoi i hi] at e
        exact absurd e (hfree i hi)
      · rw [hgo j ej] at hj
        rw [hoi i hi, hoi j hj] at e
        exact h.heap.inj i j hi hj e
  · by_cases e : i = C.nx
    · subst e
      rw [hn]
      exact ⟨hB, by show _ < (C.w.setCells _ _ _).heap.size; rw [setCells_size]; exact hbl, hIF⟩
    · rw [hgo i e] at hi
      rw [hoi i hi]
      obtain ⟨q1, q2, q3⟩ := h.heap.out i hi
      exact ⟨q1, by show _ < (C.w.setCells _ _ _).heap.size; rw [setCells_size]; exact q2, q3⟩
  · obtain ⟨u, hu⟩ := h.heap.imm b' o hI
    exact ⟨u, (hcell b' o (hIb b' o hI)).trans hu⟩
  · obtain ⟨⟨u, hu⟩, q0, q⟩ := h.heap.far b' o hF
    have hne : b' ≠ b := fun e => (hIF o).2 (e ▸ hF)
    exact ⟨⟨u, (hcell b' o hne).trans hu⟩, (hfroz b' o hne).trans q0, q⟩
  · obtain ⟨v, q1, q2⟩ := h.tmp t c ht
    exact ⟨v, q1, q2.mono le⟩
  · have hk' := hown k v cv hk
    have q := h.own k v cv hk'
    refine ⟨q.form, fun b' o t => ?_⟩
    obtain ⟨a1, a2, a3, a4, ⟨u, a5⟩, a6⟩ := q.cells b' o t
    have hne : b' ≠ b := fun e => htl k v cv hk' o (e ▸ t)
    refine ⟨a1, a2, a3, fun id hid => ?_, ⟨u, (hcell b' o hne).trans a5⟩, (hfroz b' o hne).trans a6⟩
    by_cases e : id = C.nx
    · subst e; rw [hn]; exact hne
    · rw [hgo id e] at hid
      rw [hoi id hid]; exact a4 id hid
theorem WRel.drew (h : WRel C B F w0 hp tm ct) : ∃ D : Cx, D.w = C.w.drew ∧ C.Le D ∧ D.nx = C.nx ∧ WRel D B F w0 hp tm ct := by
  have g : Grow C { C with w := C.w.drew } := ⟨(Below.refl _ _).drew, Nat.le_refl _, fun _ _ => rfl, fun _ _ h => h, fun _ _ h => .inl h, fun b o hI hb => by
    obtain ⟨u, hu⟩ := h.heap.imm b o hI
    have := cell_lt hu
    omega⟩
  exact ⟨_, rfl, h.heap.le g, rfl, h.grow g⟩
/-- What append takes the second argument for. -/
theorem cellsOf_run (h : HOk C B F w0 hp) {e : TypeId} {y : AVal} {k : Nat} {ys : List AVal} (hy : cellsOf P e y hp = some (k, ys)) {cy : Value} (hr : RV C y cy) :
    ∃ A2 c2, ∃ vs2 : List Value, cy = .slice A2 k c2 ∧ vs2.length = k * sizeT P e ∧ ys.length = k * sizeT P e ∧ (∀ (i : Nat) v, vs2[i]? = some v → ∃ b o, A2 = some ⟨b, o, none⟩ ∧ C.w.cell? ⟨b, o + i, none⟩ = some v) ∧
      ∀ (i : Nat) u, ys[i]? = some u → u.one = true ∧ ∃ v, vs2[i]? = some v ∧ RV C u v := by
  unfold cellsOf at hy
  split at hy
  · rename_i zs
    split at hy
    · rename_i hall
      injection hy with hy; injection hy with e1 e2; subst e1 e2
      obtain ⟨A, c, sz, rfl, hc, hpz, hs, h1, vs, hvl, hvm, hvr⟩ := hr.lst_inv
      have hs' : ∀ x, x ∈ zs → x.flat.length = sizeT P e := fun x hx => by
        have := List.all_eq_true.1 hall x hx
        simpa using this
      have hl := flats_len hs'
      refine ⟨A, c, vs, rfl, by rw [hvl, hl], hl, fun i v hi => let ⟨b, o, q1, _, q3⟩ := hvm i v hi; ⟨b, o, q1, q3⟩, fun i u hu => ⟨h1 u (List.mem_of_getElem? hu), ?_⟩⟩
      have hlt := (List.getElem?_eq_some_iff.1 hu).1
      have hv := List.getElem?_eq_getElem (l := vs) (i := i) (by omega)
      exact ⟨_, hv, hvr i u _ hu hv⟩
    · cases hy
  · rename_i id off n sz ag
    split at hy
    · rename_i cs hg
      split at hy
      · rename_i hc
        obtain ⟨rfl, hle⟩ := hc
        injection hy with hy; injection hy with e1 e2; subst e1 e2
        obtain ⟨c, rfl, hid, hcl, hx⟩ := hr.sl_inv
        obtain ⟨vs, ty, hb, hsz, hcs⟩ := h.blk id cs hg
        have hcell : ∀ i, C.w.cell? ⟨C.ι id, i, none⟩ = vs[i]? := fun i => by simp [World.cell?, hb]
        refine ⟨_, c, (vs.toList.drop off).take (n * sizeT P e), rfl, by simp; omega, by simp; omega, fun i v hi => ⟨_, _, rfl, ?_⟩, fun i u hu => ?_⟩
        · rw [List.getElem?_take] at hi
          split at hi
          · rw [List.getElem?_drop, Array.getElem?_toList] at hi
            rw [hcell]; exact hi
          · cases hi
        · rw [List.getElem?_map, List.getElem?_take] at hu
          split at hu
          · rename_i hi
            rw [List.getElem?_drop] at hu
            obtain ⟨c', hc', rfl⟩ := Option.map_eq_some_iff.1 hu
            obtain ⟨q1, v, q2, q3⟩ := hcs _ c' hc'
            refine ⟨q1, v, ?_, q3⟩
            rw [List.getElem?_take, if_pos hi, List.getElem?_drop, Array.getElem?_toList]
            exact q2
          · cases hu
      · cases hy
    · cases hy
  · cases hy
/-- A new array, behind a draw. -/
theorem WRel.grown (h : WRel C B F w0 hp tm ct) (cs : List AVal) (blk : Array Value) (e : TypeId) (hl : cs.length ≤ blk.size) (hc : ∀ (i : Nat) a, cs[i]? = some a → a.one = true ∧ ∃ v, blk[i]? = some v ∧ RV C a v) (n cap sz : Nat) (ag : Bool) (hcap : cap * sz ≤ blk.size) (hn : n ≤ cap) :
    ∃ D : Cx, D.w = C.w.drew.alloc (.cells blk e) ∧ C.Le D ∧ D.nx = C.nx + 1 ∧ WRel D B F w0 ((C.nx, .cells (unown cs)) :: hp) tm ct ∧ RV D (.sl C.nx 0 n sz ag) (.slice (some ⟨C.w.heap.size, 0, none⟩) n cap) := by
  obtain ⟨E, hw, le, hx, hW⟩ := h.drew
  have hsz : E.w.heap.size = C.w.heap.size := by rw [hw]; rfl
  obtain ⟨hT, _⟩ := hW.track (unown cs) blk e (by simpa [unown] using hl) (fun i c hi => by
    simp only [unown, List.getElem?_map] at hi
    obtain ⟨y, hy, rfl⟩ := Option.map_eq_some_iff.1 hi
    obtain ⟨r1, v, r2, r3⟩ := hc i y hy
    exact ⟨r1, v, r2, r3.mono le, fun hf => by cases hf⟩)
  have hι : (E.track blk e).ι E.nx = E.w.heap.size := by simp [Cx.track]
  rw [← hx, ← hsz]
  refine ⟨E.track blk e, by show E.w.alloc _ = _; rw [hw], le.trans (hW.heap.le (hW.heap.grow_track blk e)), rfl, hT, ?_⟩
  have := RV.sl (C := E.track blk e) E.nx 0 n sz cap ag (Nat.lt_succ_self _) hn (fun o ho => ⟨blk[o]'(by omega), by
    rw [hι]
    exact (cell_new E.w blk e o).trans (Array.getElem?_eq_getElem (by omega))⟩)
  rw [hι] at this
  exact this
/-- append to an array that changes. -/
theorem WRel.append_sl (h : WRel C B F w0 hp tm ct) {id n : Nat} {ag : Bool} {cs : List Cell} {cx cy : Value} {y : AVal} {k : Nat} {ys : List AVal} (t t2 ty e e2 : TypeId) (i : TypeInfo) (z : Value) (ht : P.underlying t = some (.slice e)) (ht2 : P.underlying t2 = some (.slice e2)) (hi : P.info? e = some i) (hz : i.zero = some z) (hzs : z.cells.size = i.size) (hbz : i.bytes ≠ 0) (hpos : 0 < i.size)
    (hx : RV C (.sl id 0 n i.size ag) cx) (hg : hget hp id = some (.cells cs)) (hle : n * i.size ≤ cs.length) (hy : cellsOf P e y hp = some (k, ys)) (hyr : RV C y cy) (hb : (n + k) * i.bytes ≤ 140737488355328) (ag' : Bool) :
    ∃ D cv, (Builtin.append_ #[t, t2] ty #[cx, cy]).run P C.w = .ok cv D.w ∧ C.Le D ∧ D.nx = C.nx + 1 ∧ WRel D B F w0 ((C.nx, .cells (unown ((cs.take (n * i.size)).map (·.1) ++ ys))) :: M.hdel hp id) tm ct ∧ RV D (.sl C.nx 0 (n + k) i.size ag') cv := by
  have hsi : sizeT P e = i.size := by simp [sizeT, hi]
  obtain ⟨A2, c2, vs2, rfl, hv2, hyl, hvm, hvr⟩ := cellsOf_run (P := P) h.heap hy hyr
  rw [hsi] at hv2 hyl
  obtain ⟨c, rfl, hid, hcl, hxc⟩ := hx.sl_inv
  obtain ⟨vs0, ty0, hb0, hsz0, hcs⟩ := h.heap.blk id cs hg
  have hs : (hget hp id).isSome = true := by rw [hg]; rfl
  have hcell : ∀ i, C.w.cell? ⟨C.ι id, i, none⟩ = vs0[i]? := fun i => by simp [World.cell?, hb0]
  have hd2 : ∀ k, (TypeDesc.slice e2) ≠ .int k := fun k q => by cases q
  have hlenY : (Builtin.lenOf (.slice A2 k c2)).run P C.w = .ok k C.w := rfl
  have hD := h.hdel id
  have hone : ∀ v ∈ vs2, v.oneCell' = true := by
    intro v hv
    obtain ⟨j, hj⟩ := List.getElem?_of_mem hv
    have hjl := (List.getElem?_eq_some_iff.1 hj).1
    obtain ⟨q1, v', q2, q3⟩ := hvr j _ (List.getElem?_eq_getElem (l := ys) (i := j) (by omega))
    rw [hj] at q2; injection q2 with q2; subst q2
    exact q3.one_cell q1
  have hold : ∀ (j : Nat) a, ((cs.take (n * i.size)).map (·.1))[j]? = some a → j < n * i.size ∧ a.one = true ∧ ∃ v, vs0[j]? = some v ∧ RV C a v := by
    intro j a ha
    rw [List.getElem?_map, List.getElem?_take] at ha
    split at ha
    · rename_i hj
      obtain ⟨c', hc', rfl⟩ := Option.map_eq_some_iff.1 ha
      obtain ⟨q1, v, q2, q3⟩ := hcs _ c' hc'
      exact ⟨hj, q1, v, q2, q3⟩
    · cases ha
  have hol : ((cs.take (n * i.size)).map (·.1)).length = n * i.size := by simp; omega
  by_cases hfit : n + k ≤ c
  · have hmul := Nat.mul_le_mul_right i.size hfit
    rw [Nat.add_mul] at hmul
    have hroom : n * i.size + k * i.size ≤ vs0.size := by
      rcases Nat.eq_zero_or_pos (n * i.size + k * i.size) with h0 | h0
      · omega
      · obtain ⟨u, hu⟩ := hxc (n * i.size + k * i.size - 1) (by omega)
        rw [hcell] at hu
        have := (Array.getElem?_eq_some_iff.1 hu).1
        omega
    have hst : (storeCells ((⟨C.ι id, 0, none⟩ : Addr).add (n * i.size)) vs2).run P C.w = .ok () (C.w.setCells (C.ι id) (n * i.size) vs2) := by
      have h2 := run_storeCells_cells (P := P) (C.ι id) (n * i.size) vs2 0 C.w (fun j hj => by
        rw [Nat.add_zero, hcell, Array.getElem?_eq_getElem (by omega)]; rfl) (fun j hj => by simp [World.frozen?, hb0]) hone
      rw [Nat.add_zero] at h2
      rw [add_at, Nat.zero_add]
      exact h2
    obtain ⟨o1, o2, o3⟩ := h.heap.out id hs
    obtain ⟨le, hW⟩ := hD.adopt (C.ι id) (n * i.size) vs2 hb0 o1 (fun j hj e => by
      rw [hget_hdel0] at hj
      split at hj
      · cases hj
      · rename_i hne
        exact hne (h.heap.inj j id hj hs e)) o3 (fun q v cv hq o t => by
      have hq' : Owned C hp tm ct q v cv := by
        obtain ⟨a, b⟩ := q
        cases a with
        | zero => exact hq
        | succ j =>
          obtain ⟨cs', vs', ty', g1, g2⟩ := hq
          rw [hget_hdel0] at g1
          split at g1
          · cases g1
          · exact ⟨cs', vs', ty', g1, g2⟩
      exact ((h.own q v cv hq').cells _ _ t).2.2.2.1 id hs rfl) ((cs.take (n * i.size)).map (·.1) ++ ys) (by rw [List.length_append, hol, hyl]; exact hroom) (fun j a ha => by
      rcases Nat.lt_or_ge j (n * i.size) with hlt | hge
      · rw [List.getElem?_append_left (by omega)] at ha
        obtain ⟨_, q1, v, q2, q3⟩ := hold j a ha
        exact ⟨q1, v, by rw [setsA_get, if_neg (by omega)]; exact q2, q3⟩
      · rw [List.getElem?_append_right (by omega), hol] at ha
        obtain ⟨q1, v, q2, q3⟩ := hvr _ a ha
        have hjl := (List.getElem?_eq_some_iff.1 q2).1
        exact ⟨q1, v, by rw [setsA_get, if_pos (by omega)]; exact q2, q3⟩)
    refine ⟨_, _, run_append_in (P := P) C.w t t2 ty e i _ ht ht2 hd2 hi _ n c k (.slice A2 k c2) vs2 hlenY (run_first (P := P) C.w i.size k c2 A2 vs2 hv2 hvm) hfit _ (fun a ha => by injection ha with ha; subst ha; exact hst) (fun q => by cases q), le, rfl, hW, ?_⟩
    have hn : (C.adopt (C.ι id) (n * i.size) vs2).ι C.nx = C.ι id := by simp [Cx.adopt]
    have := RV.sl (C := C.adopt (C.ι id) (n * i.size) vs2) C.nx 0 (n + k) i.size c ag' (Nat.lt_succ_self _) hfit (fun o ho => by
      rw [hn]
      obtain ⟨u, hu⟩ := hxc o ho
      exact cell_setCells_ex _ _ _ _ hu)
    rw [hn] at this
    exact this
  · have hf := run_first (P := P) C.w.drew i.size k c2 A2 vs2 hv2 hvm
    have holdl : (vs0.toList.take (n * i.size)).length = n * i.size := by simp; omega
    have hfo := run_first (P := P) C.w.drew i.size n c (some ⟨C.ι id, 0, none⟩) (vs0.toList.take (n * i.size)) holdl (fun j v hj => ⟨_, _, rfl, by
      rw [List.getElem?_take] at hj
      split at hj
      · show C.w.cell? _ = _
        rw [Nat.zero_add, hcell, ← Array.getElem?_toList]; exact hj
      · cases hj⟩)
    have hrun := run_append_out (P := P) C.w t t2 ty e i z _ ht ht2 hd2 hi hz _ n c k (.slice A2 k c2) _ vs2 hlenY hfit hf hfo hb hbz
    generalize hcap : grownCap C.w (n + k) c e = cap at hrun
    have hcapge : n + k ≤ cap := by rw [← hcap]; exact grownCap_ge _ _ _ _
    generalize hblk : (vs0.toList.take (n * i.size)).toArray ++ vs2.toArray ++ Builtin.zeroCells z.cells (cap - (n + k)) = blk at hrun
    have hbs : blk.size = cap * i.size := by
      rw [← hblk]
      simp only [Array.size_append, List.size_toArray, size_zeroCells, hzs, holdl, hv2]
      rw [← Nat.add_mul, ← Nat.add_mul]
      congr 1
      omega
    have hbl : ∀ (j : Nat) (v : Value), (vs0.toList.take (n * i.size) ++ vs2)[j]? = some v → blk[j]? = some v := by
      intro j v hj
      have hjl := (List.getElem?_eq_some_iff.1 hj).1
      rw [List.length_append] at hjl
      rw [← hblk, Array.getElem?_append_left (by simpa using hjl), List.append_toArray]
      simpa using hj
    have hmul := Nat.mul_le_mul_right i.size hcapge
    rw [Nat.add_mul] at hmul
    obtain ⟨D, hw, le, hx', hW, hrv⟩ := hD.grown ((cs.take (n * i.size)).map (·.1) ++ ys) blk e (by rw [List.length_append, hol, hyl, hbs]; exact hmul) (fun j a ha => by
      rcases Nat.lt_or_ge j (n * i.size) with hlt | hge
      · rw [List.getElem?_append_left (by omega)] at ha
        obtain ⟨hj, q1, v, q2, q3⟩ := hold j a ha
        refine ⟨q1, v, hbl j v ?_, q3⟩
        rw [List.getElem?_append_left (by omega), List.getElem?_take, if_pos hj, Array.getElem?_toList]
        exact q2
      · rw [List.getElem?_append_right (by omega), hol] at ha
        obtain ⟨q1, v, q2, q3⟩ := hvr _ a ha
        refine ⟨q1, v, hbl j v ?_, q3⟩
        rw [List.getElem?_append_right (by omega), holdl]
        exact q2) (n + k) cap i.size ag' (by omega) hcapge
    exact ⟨D, _, by rw [hw]; exact hrun, le, hx', hW, hrv⟩
/-- append of something to nil. -/
theorem WRel.append_nil (h : WRel C B F w0 hp tm ct) {cy : Value} {y : AVal} {k : Nat} {ys : List AVal} (t t2 ty e e2 : TypeId) (i : TypeInfo) (z : Value) (ht : P.underlying t = some (.slice e)) (ht2 : P.underlying t2 = some (.slice e2)) (hi : P.info? e = some i) (hz : i.zero = some z) (hzs : z.cells.size = i.size) (hbz : i.bytes ≠ 0)
    (hy : cellsOf P e y hp = some (k, ys)) (hyr : RV C y cy) (hk : k ≠ 0) (hb : k * i.bytes ≤ 140737488355328) (ag' : Bool) (A : Option Addr) :
    ∃ D cv, (Builtin.append_ #[t, t2] ty #[.slice A 0 0, cy]).run P C.w = .ok cv D.w ∧ C.Le D ∧ D.nx = C.nx + 1 ∧ WRel D B F w0 ((C.nx, .cells (unown ys)) :: hp) tm ct ∧ RV D (.sl C.nx 0 k i.size ag') cv := by
  have hsi : sizeT P e = i.size := by simp [sizeT, hi]
  obtain ⟨A2, c2, vs2, rfl, hv2, hyl, hvm, hvr⟩ := cellsOf_run (P := P) h.heap hy hyr
  rw [hsi] at hv2 hyl
  have hd2 : ∀ k, (TypeDesc.slice e2) ≠ .int k := fun k q => by cases q
  have hlenY : (Builtin.lenOf (.slice A2 k c2)).run P C.w = .ok k C.w := rfl
  have hf := run_first (P := P) C.w.drew i.size k c2 A2 vs2 hv2 hvm
  have hfo := run_first (P := P) C.w.drew i.size 0 0 A [] (by simp) (fun j v hj => by simp at hj)
  have hrun := run_append_out (P := P) C.w t t2 ty e i z _ ht ht2 hd2 hi hz A 0 0 k (.slice A2 k c2) [] vs2 hlenY (by omega) hf hfo (by simpa using hb) hbz
  generalize hcap : grownCap C.w (0 + k) 0 e = cap at hrun
  have hcapge : k ≤ cap := by have := grownCap_ge C.w (0 + k) 0 e; omega
  generalize hblk : ([] : List Value).toArray ++ vs2.toArray ++ Builtin.zeroCells z.cells (cap - (0 + k)) = blk at hrun
  have hbs : blk.size = cap * i.size := by
    rw [← hblk]
    simp only [Array.size_append, List.size_toArray, size_zeroCells, hzs, hv2, List.length_nil, Nat.zero_add]
    rw [← Nat.add_mul]
    congr 1
    omega
  have hbl : ∀ (j : Nat) (v : Value), vs2[j]? = some v → blk[j]? = some v := by
    intro j v hj
    have hjl := (List.getElem?_eq_some_iff.1 hj).1
    rw [← hblk, Array.getElem?_append_left (by simpa using hjl)]
    simpa using hj
  have hmul := Nat.mul_le_mul_right i.size hcapge
  obtain ⟨D, hw, le, hx', hW, hrv⟩ := h.grown ys blk e (by rw [hyl, hbs]; exact hmul) (fun j a ha => by
    obtain ⟨q1, v, q2, q3⟩ := hvr j a ha
    exact ⟨q1, v, hbl j v q2, q3⟩) k cap i.size ag' (by omega) hcapge
  rw [Nat.zero_add] at hrun
  exact ⟨D, _, by rw [hw]; exact hrun, le, hx', hW, hrv⟩
end
end Go.Proofs.YtkpfkadjmijmlaaGreatDoor.M
/- The machine is right: builtins, calls. -/
namespace Go.Proofs.YtkpfkadjmijmlaaGreatDoor.M
open Go.RowKit
set_option linter.unusedVariables false
set_option linter.unusedSimpArgs false

section
variable {P : Program} {C : Cx} {B : Nat} {F : Nat → Nat → Prop} {w0 : World} {hp : Heap} {tm : List Cell} {ct : Array Value}

theorem run_builtin (ρ : Operand → Value) (b : Builtin) (args : Array Operand) (ts : Array TypeId) (dst : Option Tmp) (type : TypeId) (pos : String) (after : Array Edge) (guard : Option (Nat × Bool)) :
    execOp ρ ⟨dst, .call { callee := .builtin b, args := args, argTypes := ts }, type, pos, after, guard⟩ = builtin b ts type (args.map fun | .const _ => true | _ => false) (args.map ρ) := rfl
theorem sound_min (f : AVal → AVal → Option AVal) (g : Value → Value → Sem Value) (hfg : ∀ a b r u v, f a b = some r → RV C a u → RV C b v → ∃ z, (g u v).run P C.w = .ok z C.w ∧ RV C r z) (h : WRel C B F w0 hp tm ct) (ds : List Deferred) :
    ∀ (l : List Operand) (a : AVal) (u : Value) {r : AVal}, RV C a u → l.foldlM (fun a y => f a (ev tm y).1) a = some r → ∃ z, ((l.map (Act.eval ⟨ct, ds⟩)).foldlM g u).run P C.w = .ok z C.w ∧ RV C r z := by
  intro l
  induction l with
  | nil => intro a u r hu h; simp only [List.foldlM] at h; injection h with h; subst h; exact ⟨u, rfl, hu⟩
  | cons y l ih =>
    intro a u r hu hr
    simp only [List.foldlM_cons] at hr
    obtain ⟨b, hb, hr⟩ := Option.bind_eq_some_iff.1 hr
    obtain ⟨z, hz, hbz⟩ := hfg _ _ _ _ _ hb hu (h.ev y ds)
    obtain ⟨z', hz', hr'⟩ := ih b z hbz hr
    exact ⟨z', by simp [List.foldlM_cons, hz, hz'], hr'⟩
theorem map_list {α β : Type} (a : Array α) (f : α → β) {l : List α} (h : a.toList = l) : a.map f = (l.map f).toArray := by
  apply Array.ext'
  simp [h]
theorem arr_list {α : Type} (a : Array α) {l : List α} (h : a.toList = l) : a = l.toArray := by
  apply Array.ext'
  simp [h]
theorem RV.nilm_inv {u : Value} (h : RV C .nilm u) : u = .map none := by cases h; rfl
theorem slot_of {u : Tmp} {v : AVal} {f : Bool} (hu : M.ev tm (.tmp u) = (v, f)) (hv : v ≠ .bad) : tm[u]? = some (v, f) := by
  simp only [M.ev] at hu
  cases ht : tm[u]? with
  | none => rw [ht] at hu; simp at hu; exact absurd hu.1.symm hv
  | some c => rw [ht] at hu; simp at hu; rw [hu]
theorem eval_slot (ds : List Deferred) {u : Tmp} {cx : Value} (hcx : ct[u]? = some cx) : Act.eval ⟨ct, ds⟩ (.tmp u) = cx := by
  have hlt := (Array.getElem?_eq_some_iff.1 hcx).1
  have he := (Array.getElem?_eq_some_iff.1 hcx).2
  simp [Act.eval, Array.getD, hlt, he]
theorem sound_appendO (h : WRel C B F w0 hp tm ct) (ds : List Deferred) (args : Array Operand) (ts : Array TypeId) (dst : Option Tmp) (type : TypeId) {u : Tmp} {y : Operand} {xs : List AVal} (hal : args.toList = [.tmp u, y]) (hu : M.ev tm (.tmp u) = (.lst xs, true)) {q : Out} (hq : aappendO P ts.toList xs (M.ev tm y).1 (some u) C.nx hp = some q) :
    Done C B F w0 tm ⟨ct, ds⟩ dst q ((builtin .append ts type (args.map fun | .const _ => true | _ => false) (args.map (Act.eval ⟨ct, ds⟩))).run P C.w) := by
  unfold aappendO at hq
  split at hq
  · rename_i ys t t2 hy htl
    split at hq
    · rename_i e2 hu2
      obtain ⟨r, hr, rfl⟩ := Option.map_eq_some_iff.1 hq
      unfold aappend at hr
      split at hr
      · rename_i e hue
        split at hr
        · rename_i i hi
          split at hr
          · rename_i hc
            obtain ⟨c1, c2, c3, c4, c5⟩ := hc
            injection hr with hr; subst hr
            have htu : tm[u]? = some (.lst xs, true) := by
              simp only [M.ev] at hu
              cases ht : tm[u]? with
              | none => rw [ht] at hu; simp at hu
              | some c => rw [ht] at hu; simp at hu; rw [hu]
            obtain ⟨cx, hcx, _⟩ := h.tmp u _ htu
            have hev : Act.eval ⟨ct, ds⟩ (.tmp u) = cx := by
              have hlt := (Array.getElem?_eq_some_iff.1 hcx).1
              have he := (Array.getElem?_eq_some_iff.1 hcx).2
              simp [Act.eval, Array.getD, hlt, he]
            have hyv := h.ev y ds
            rw [hy] at hyv
            obtain ⟨z, hz⟩ : ∃ z, i.zero = some z := by
              unfold zeroOk at c4
              cases hz : i.zero with
              | none => rw [hz] at c4; cases c4
              | some z => exact ⟨z, rfl⟩
            have hzs : z.cells.size = i.size := by unfold zeroOk at c4; rw [hz] at c4; simpa using c4
            obtain ⟨D, cv, hrun, le, hnx, hW, hrv, hown, hsep⟩ := h.append (P := P) htu hcx hyv t t2 type e e2 i z hue hu2 hi hz hzs c1 (fun x r hx => by rw [hx] at c2; simpa [headOk] using c2) (fun x r hx => by rw [hx] at c3; simpa [headOk] using c3) c5
            have hrun' : (Builtin.append_ ts type (args.map (Act.eval ⟨ct, ds⟩))).run P C.w = .ok cv D.w := by
              rw [map_list args _ hal, arr_list ts htl]
              simp only [List.map_cons, List.map_nil, hev]
              exact hrun
            rw [show builtin .append ts type (args.map fun | .const _ => true | _ => false) (args.map (Act.eval ⟨ct, ds⟩)) = (do pure (Next.value (← Builtin.append_ ts type (args.map (Act.eval ⟨ct, ds⟩))))) from rfl, run_value hrun']
            refine ⟨D, _, cv, rfl, .inl rfl, le, hnx, ?_, put_defers _ _ _⟩
            cases dst with
            | none => simp only [Out.put, unflag_some htu]; exact hW
            | some d => simp only [Out.put, unflag_some htu]; exact hW.puto d hrv hown (fun k v' cv' ho _ => hsep k v' cv' ho)
          · cases hr
        · cases hr
      · cases hr
    · cases hq
  · cases hq
theorem own_nil (A : Option Addr) : OwnOk C B F hp (.lst []) (.slice A 0 0) ∧ ∀ b o, ¬ Tail (.lst []) (.slice A 0 0) b o := by
  have ht : ∀ b o, ¬ Tail (.lst []) (.slice A 0 0) b o := by
    rintro b o ⟨xs, a, n, c, x, r, h1, _, h3, _⟩
    injection h1 with h1
    rw [← h1] at h3
    cases h3
  exact ⟨⟨⟨[], A, 0, 0, rfl, rfl, fun _ => rfl⟩, fun b o t => absurd t (ht b o)⟩, ht⟩
/-- A slot more, that holds nil. -/
theorem WRel.more (h : WRel C B F w0 hp tm ct) : WRel C B F w0 hp (tm ++ [(.lst [], true)]) (ct.push (.slice none 0 0)) := by
  have h1 : WRel C B F w0 hp (tm ++ [(.lst [], false)]) (ct.push (.slice none 0 0)) := by
    refine h.slots (by simp [h.size]) (fun t c ht => ?_) id (fun t v cv ht hc => ?_) (fun t t' _ _ _ _ e => e)
    · rcases Nat.lt_or_ge t tm.length with hlt | hge
      · rw [List.getElem?_append_left hlt] at ht
        obtain ⟨v, q1, q2⟩ := h.tmp t c ht
        exact ⟨v, by rw [Array.getElem?_push_lt (by rw [h.size]; exact hlt)]; rw [← q1]; exact (Array.getElem?_eq_getElem _).symm, q2⟩
      · rw [List.getElem?_append_right hge] at ht
        have e : t = tm.length := by
          have := (List.getElem?_eq_some_iff.1 ht).1
          simp at this
          omega
        subst e
        simp at ht; subst ht
        exact ⟨.slice none 0 0, by rw [← h.size]; simp, by have := RV.ofCell (C := C) (.slice none 0 0); exact this⟩
    · rcases Nat.lt_or_ge t tm.length with hlt | hge
      · rw [List.getElem?_append_left hlt] at ht
        refine ⟨ht, ?_⟩
        rw [Array.getElem?_push, if_neg (by rw [h.size]; omega)] at hc
        exact hc
      · rw [List.getElem?_append_right hge] at ht
        have := (List.getElem?_eq_some_iff.1 ht).1
        simp at this
        rw [show t - tm.length = 0 by omega] at ht
        simp at ht
  obtain ⟨o1, o2⟩ := own_nil (C := C) (B := B) (F := F) (hp := hp) none
  have h2 := h1.puto tm.length (v := .lst []) (cv := .slice none 0 0) (by have := RV.ofCell (C := C) (.slice none 0 0); exact this) o1 (fun k v' cv' _ _ b o t => absurd t (o2 b o))
  have e1 : (tm ++ [((.lst [] : AVal), false)]).set tm.length (.lst [], true) = tm ++ [(.lst [], true)] := by simp
  have e2 : (ct.push (.slice none 0 0)).setIfInBounds tm.length (.slice none 0 0) = ct.push (.slice none 0 0) := by
    apply Array.ext_getElem?
    intro i
    rw [Array.getElem?_setIfInBounds]
    split
    · rename_i e; subst e
      rw [← h.size]; simp
    · rfl
  rw [e1, e2] at h2
  exact h2
theorem WRel.less {c : Cell} {x : Value} (h : WRel C B F w0 hp (tm ++ [c]) (ct.push x)) : WRel C B F w0 hp tm ct := by
  have hs : ct.size = tm.length := by have := h.size; simp at this; omega
  refine h.slots hs (fun t c ht => ?_) id (fun t v cv ht hc => ?_) (fun t t' _ _ _ _ e => e)
  · have hlt := (List.getElem?_eq_some_iff.1 ht).1
    obtain ⟨v, q1, q2⟩ := h.tmp t c (by rw [List.getElem?_append_left hlt]; exact ht)
    rw [Array.getElem?_push, if_neg (by omega)] at q1
    exact ⟨v, q1, q2⟩
  · have hlt := (List.getElem?_eq_some_iff.1 ht).1
    exact ⟨by show (tm ++ [_])[t]? = _; rw [List.getElem?_append_left hlt]; exact ht, by show (ct.push x)[t]? = _; rw [Array.getElem?_push, if_neg (by omega)]; exact hc⟩
theorem Owned.more (hs : ct.size = tm.length) {c : Cell} {x : Value} {k : Nat × Nat} {v : AVal} {cv : Value} (h : Owned C hp tm ct k v cv) : Owned C hp (tm ++ [c]) (ct.push x) k v cv := by
  obtain ⟨i, t⟩ := k
  cases i with
  | succ id => exact h
  | zero =>
    have hlt := (List.getElem?_eq_some_iff.1 h.1).1
    exact ⟨by rw [List.getElem?_append_left hlt]; exact h.1, by rw [Array.getElem?_push, if_neg (by omega)]; exact h.2⟩
theorem zeroOk_inv {i : TypeInfo} (h : zeroOk i = true) : ∃ z, i.zero = some z ∧ z.cells.size = i.size := by
  unfold zeroOk at h
  cases hz : i.zero with
  | none => rw [hz] at h; cases h
  | some z => rw [hz] at h; exact ⟨z, rfl, by simpa using h⟩
theorem sound_appendC (h : WRel C B F w0 hp tm ct) (ds : List Deferred) (args : Array Operand) (ts : Array TypeId) (dst : Option Tmp) (type : TypeId) {u : Value} {y : Operand} (hal : args.toList = [.const u, y]) (hu : M.ev tm (.const u) = (.lst [], true)) {q : Out} (hq : aappendO P ts.toList [] (M.ev tm y).1 none C.nx hp = some q) :
    Done C B F w0 tm ⟨ct, ds⟩ dst q ((builtin .append ts type (args.map fun | .const _ => true | _ => false) (args.map (Act.eval ⟨ct, ds⟩))).run P C.w) := by
  have hnil : u = .slice none 0 0 := by
    simp only [M.ev] at hu
    injection hu with _ hu
    exact isNil_eq hu
  subst hnil
  unfold aappendO at hq
  split at hq
  · rename_i ys t t2 hy htl
    split at hq
    · rename_i e2 hu2
      obtain ⟨r, hr, rfl⟩ := Option.map_eq_some_iff.1 hq
      unfold aappend at hr
      split at hr
      · rename_i e hue
        split at hr
        · rename_i i hi
          split at hr
          · rename_i hc
            obtain ⟨c1, c2, c3, c4, c5⟩ := hc
            injection hr with hr; subst hr
            have hyv := h.ev y ds
            rw [hy] at hyv
            obtain ⟨z, hz, hzs⟩ := zeroOk_inv c4
            have hm := h.more
            obtain ⟨D, cv, hrun, le, hnx, hW, hrv, hown, hsep⟩ := hm.append (P := P) (s := tm.length) (xs := []) (cx := .slice none 0 0) (by simp) (by rw [← h.size]; simp) hyv t t2 type e e2 i z hue hu2 hi hz hzs c1 (fun x r hx => by cases hx) (fun x r hx => by rw [hx] at c3; simpa [headOk] using c3) (by simpa using c5)
            have hrun' : (Builtin.append_ ts type (args.map (Act.eval ⟨ct, ds⟩))).run P C.w = .ok cv D.w := by
              rw [map_list args _ hal, arr_list ts htl]
              simp only [List.map_cons, List.map_nil]
              exact hrun
            rw [show builtin .append ts type (args.map fun | .const _ => true | _ => false) (args.map (Act.eval ⟨ct, ds⟩)) = (do pure (Next.value (← Builtin.append_ ts type (args.map (Act.eval ⟨ct, ds⟩))))) from rfl, run_value hrun']
            have e1 : (tm ++ [((.lst [] : AVal), true)]).set tm.length (.lst [], false) = tm ++ [(.lst [], false)] := by simp
            rw [e1] at hW hsep
            have hL := hW.less
            refine ⟨D, _, cv, rfl, .inl rfl, le, hnx, ?_, put_defers _ _ _⟩
            cases dst with
            | none => simp only [Out.put]; exact hL
            | some d => simp only [Out.put]; exact hL.puto d hrv hown (fun k v' cv' ho _ => hsep k v' cv' (ho.more hL.size))
          · cases hr
        · cases hr
      · cases hr
    · cases hq
  · cases hq
theorem argOf_rv {mu : List TypeId} (x : Operand) (v : AVal) (ds : List Deferred) (h : RV C v (Act.eval ⟨ct, ds⟩ x)) : RV C (argOf mu x v) (Act.eval ⟨ct, ds⟩ x) := by
  unfold argOf
  split
  · exact .nils
  · exact h
theorem sound_appendM (h : WRel C B F w0 hp tm ct) (ds : List Deferred) (lo : Nat) (args : Array Operand) (ts : Array TypeId) (dst : Option Tmp) (type : TypeId) {x y : Operand} (hal : args.toList = [x, y]) {q : Out} (hq : aappendM P lo ts.toList x (M.ev tm x) (M.ev tm y).1 C.nx hp = some q) :
    Done C B F w0 tm ⟨ct, ds⟩ dst q ((builtin .append ts type (args.map fun | .const _ => true | _ => false) (args.map (Act.eval ⟨ct, ds⟩))).run P C.w) := by
  unfold aappendM at hq
  split at hq
  rotate_left
  · cases hq
  rename_i t t2 htl
  split at hq
  rotate_left
  · cases hq
  rename_i e e2 hue hu2
  split at hq
  rotate_left
  · cases hq
  rename_i i ag k ys hi hag hcy
  split at hq
  rotate_left
  · cases hq
  rename_i hc
  obtain ⟨c1, c2, c3⟩ := hc
  obtain ⟨z, hz, hzs⟩ := zeroOk_inv c3
  have hyv := h.ev y ds
  have hxv := h.ev x ds
  have fin : ∀ (q : Out) (D : Cx) (cv : Value), (Builtin.append_ #[t, t2] type #[Act.eval ⟨ct, ds⟩ x, Act.eval ⟨ct, ds⟩ y]).run P C.w = .ok cv D.w → C.Le D → D.nx = q.nx → (WRel D B F w0 q.hp (q.put dst tm).tm ((⟨ct, ds⟩ : Act).put dst cv).tmps) →
      Done C B F w0 tm ⟨ct, ds⟩ dst q ((builtin .append ts type (args.map fun | .const _ => true | _ => false) (args.map (Act.eval ⟨ct, ds⟩))).run P C.w) := by
    intro q D cv hrun le hnx hW
    have hrun' : (Builtin.append_ ts type (args.map (Act.eval ⟨ct, ds⟩))).run P C.w = .ok cv D.w := by
      rw [map_list args _ hal, arr_list ts htl]
      exact hrun
    rw [show builtin .append ts type (args.map fun | .const _ => true | _ => false) (args.map (Act.eval ⟨ct, ds⟩)) = (do pure (Next.value (← Builtin.append_ ts type (args.map (Act.eval ⟨ct, ds⟩))))) from rfl, run_value hrun']
    exact ⟨D, _, cv, rfl, .inl rfl, le, hnx, hW, put_defers _ _ _⟩
  split at hq
  · rename_i hx
    -- nil, or an empty literal
    obtain ⟨A, hcx, hdrop⟩ : ∃ A, Act.eval ⟨ct, ds⟩ x = .slice A 0 0 ∧ ∀ u, x = .tmp u → tm[u]? = some (.lst [], true) := by
      cases x with
      | tmp u =>
        have htu := slot_of hx (by simp)
        obtain ⟨cx, hcx, _⟩ := h.tmp u _ htu
        obtain ⟨xs, A, n, c, e1, e2, e3⟩ := (h.own (0, u) _ cx ⟨htu, hcx⟩).form
        injection e1 with e1; subst e1
        have := e3 rfl
        subst this
        obtain ⟨A', c', sz, e4, hc', _⟩ := (show RV C (.lst []) cx by have := h.ev (.tmp u) ds; rw [hx, eval_slot ds hcx] at this; exact this).lst_inv
        rw [e2] at e4
        injection e4 with e4 e5 e6
        subst e5
        exact ⟨A, by rw [eval_slot ds hcx, e2]; rfl, fun u' e' => by injection e' with e'; subst e'; exact htu⟩
      | const v =>
        simp only [M.ev] at hx
        injection hx with _ hx
        exact ⟨none, isNil_eq hx, fun u e => by cases e⟩
      | func f => simp [M.ev] at hx
      | global g => simp [M.ev] at hx
    split at hq
    · rename_i hk
      subst hk
      injection hq with hq; subst hq
      obtain ⟨A2, c2', vs2, e3, hv2, _, hvm, _⟩ := cellsOf_run (P := P) h.heap hcy hyv
      have hvs : vs2 = [] := List.eq_nil_of_length_eq_zero (by rw [hv2]; simp)
      subst hvs
      have hrun := run_append_in (P := P) C.w t t2 type e i _ hue hu2 (fun k q => by cases q) hi A 0 0 0 (Act.eval ⟨ct, ds⟩ y) [] (by rw [e3]; rfl) (by rw [e3]; exact run_first (P := P) C.w i.size 0 c2' A2 [] (by simp) hvm) (Nat.le_refl _) C.w (fun a _ => rfl) (fun _ => rfl)
      obtain ⟨o1, o2⟩ := own_nil (C := C) (B := B) (F := F) (hp := hp) A
      have hrv : RV C (.lst []) (.slice A 0 0) := RV.lst_mk (xs := []) (sz := 1) (by simp) (fun q => absurd rfl q) (fun x hx => by simp at hx) (fun u hu => by simp [flats] at hu) [] (by simp [flats]) (fun i v hi => by simp at hi) (fun i u v hu => by simp [flats] at hu)
      refine fin _ C (.slice A 0 0) (by rw [hcx]; exact hrun) (Cx.Le.refl C) rfl ?_
      cases x with
      | tmp u =>
        have htu := hdrop u rfl
        cases dst with
        | none => simp only [Out.put, unflag_some htu]; exact h.drop u htu
        | some d => simp only [Out.put, unflag_some htu]; exact (h.drop u htu).puto d hrv o1 (fun k v' cv' _ _ b o t => absurd t (o2 b o))
      | _ =>
        cases dst with
        | none => exact h
        | some d => exact h.puto d hrv o1 (fun k v' cv' _ _ b o t => absurd t (o2 b o))
    · rename_i hk
      split at hq
      · rename_i hb
        injection hq with hq; subst hq
        obtain ⟨D, cv, hrun, le, hnx, hW, hrv⟩ := h.append_nil (P := P) t t2 type e e2 i z hue hu2 hi hz hzs c1 hcy hyv hk hb ag A
        refine fin _ D cv (by rw [hcx]; exact hrun) le hnx ?_
        cases dst with
        | none => exact hW
        | some d => exact hW.put d hrv
      · cases hq
  · rename_i id n sz ag0 f hx
    split at hq
    · rename_i cs hg
      split at hq
      · rename_i hc
        obtain ⟨hlo, rfl, hle, hb⟩ := hc
        injection hq with hq; subst hq
        rw [hx] at hxv
        obtain ⟨D, cv, hrun, le, hnx, hW, hrv⟩ := h.append_sl (P := P) t t2 type e e2 i z hue hu2 hi hz hzs c1 c2 hxv hg hle hcy hyv hb ag
        refine fin _ D cv hrun le hnx ?_
        cases dst with
        | none => exact hW
        | some d => exact hW.put d hrv
      · cases hq
    · cases hq
  · rename_i f hx
    rw [hx] at hxv
    have hcx : Act.eval ⟨ct, ds⟩ x = .slice none 0 0 := by
      generalize Act.eval ⟨ct, ds⟩ x = vx at hxv
      cases hxv
      rfl
    split at hq
    · rename_i hk
      subst hk
      injection hq with hq; subst hq
      obtain ⟨A2, c2', vs2, e3, hv2, _, hvm, _⟩ := cellsOf_run (P := P) h.heap hcy hyv
      have hvs : vs2 = [] := List.eq_nil_of_length_eq_zero (by rw [hv2]; simp)
      subst hvs
      have hrun := run_append_in (P := P) C.w t t2 type e i _ hue hu2 (fun k q => by cases q) hi none 0 0 0 (Act.eval ⟨ct, ds⟩ y) [] (by rw [e3]; rfl) (by rw [e3]; exact run_first (P := P) C.w i.size 0 c2' A2 [] (by simp) hvm) (Nat.le_refl _) C.w (fun a _ => rfl) (fun _ => rfl)
      obtain ⟨o1, o2⟩ := own_nil (C := C) (B := B) (F := F) (hp := hp) none
      have hrv : RV C (.lst []) (.slice none 0 0) := RV.lst_mk (xs := []) (sz := 1) (by simp) (fun q => absurd rfl q) (fun x hx => by simp at hx) (fun u hu => by simp [flats] at hu) [] (by simp [flats]) (fun i v hi => by simp at hi) (fun i u v hu => by simp [flats] at hu)
      refine fin _ C (.slice none 0 0) (by rw [hcx]; exact hrun) (Cx.Le.refl C) rfl ?_
      cases dst with
      | none => exact h
      | some d => exact h.puto d hrv o1 (fun k v' cv' _ _ b o t => absurd t (o2 b o))
    · rename_i hk
      split at hq
      · rename_i hb
        injection hq with hq; subst hq
        obtain ⟨D, cv, hrun, le, hnx, hW, hrv⟩ := h.append_nil (P := P) t t2 type e e2 i z hue hu2 hi hz hzs c1 hcy hyv hk hb ag none
        refine fin _ D cv (by rw [hcx]; exact hrun) le hnx ?_
        cases dst with
        | none => exact hW
        | some d => exact hW.put d hrv
      · cases hq
  · cases hq
theorem sound_builtin (h : WRel C B F w0 hp tm ct) (ds : List Deferred) (ro : Md) (b : Builtin) (args : Array Operand) (ts : Array TypeId) (dst : Option Tmp) (type : TypeId) (pos : String) (after : Array Edge) (guard : Option (Nat × Bool)) {q : Out} (hq : abuiltin P ro b ts args (ev tm) C.nx hp = some q) :
    Done C B F w0 tm ⟨ct, ds⟩ dst q ((execOp (Act.eval ⟨ct, ds⟩) ⟨dst, .call { callee := .builtin b, args := args, argTypes := ts }, type, pos, after, guard⟩).run P C.w) := by
  rw [run_builtin]
  unfold abuiltin at hq
  split at hq
  · rename_i x hal
    split at hq
    · rename_i t htl
      obtain ⟨r, hr, rfl⟩ := val_some hq
      have hx := h.ev x ds
      have : ∃ z, (Builtin.len_ ts type (args.map (Act.eval ⟨ct, ds⟩))).run P C.w = .ok z C.w ∧ RV C r z := by
        rw [map_list args _ hal, arr_list ts htl]
        simp only [List.map_cons, List.map_nil]
        generalize Act.eval ⟨ct, ds⟩ x = u at hx
        unfold alen at hr
        split at hr
        · rename_i s hu he
          injection hr with hr; subst hr
          rw [he] at hx
          rw [hx.str_inv]
          exact ⟨.int .i64 s.size, by simp [Builtin.len_, run_underlying hu, goInt], .int _ _⟩
        · rename_i e xs hu he
          injection hr with hr; subst hr
          rw [he] at hx
          obtain ⟨A, c, sz, e, _⟩ := hx.lst_inv
          rw [e]
          exact ⟨.int .i64 xs.length, by simp [Builtin.len_, run_underlying hu, goInt], .int _ _⟩
        · rename_i e id off n sz ag hu he
          injection hr with hr; subst hr
          rw [he] at hx
          obtain ⟨c, e, _⟩ := hx.sl_inv
          rw [e]
          exact ⟨.int .i64 n, by simp [Builtin.len_, run_underlying hu, goInt], .int _ _⟩
        · rename_i hu he
          injection hr with hr; subst hr
          rw [he] at hx
          rw [hx.nilm_inv]
          exact ⟨.int .i64 0, by simp [Builtin.len_, run_underlying hu, goInt], .int _ _⟩
        · cases hr
      obtain ⟨z, hz, hrz⟩ := this
      rw [show builtin .len ts type (args.map fun | .const _ => true | _ => false) (args.map (Act.eval ⟨ct, ds⟩)) = (do pure (Next.value (← Builtin.len_ ts type (args.map (Act.eval ⟨ct, ds⟩))))) from rfl, run_value hz]
      exact done_val h ds dst hrz
    · cases hq
  · rename_i x r hal
    obtain ⟨y, hy, rfl⟩ := val_some hq
    obtain ⟨z, hz, hrz⟩ := sound_min (P := P) amin Builtin.min2 (fun a b r u v hr hu hv => by
      cases a <;> cases b <;> (try simp only [amin] at hr) <;> try (cases hr; done)
      injection hr with hr; subst hr
      rw [hu.int_inv, hv.int_inv]
      exact ⟨_, rfl, .int _ _⟩) h ds r _ _ (h.ev x ds) hy
    have hz' : (Builtin.min_ ts type (args.map (Act.eval ⟨ct, ds⟩))).run P C.w = .ok z C.w := by
      rw [map_list args _ hal]
      exact hz
    rw [show builtin .min ts type (args.map fun | .const _ => true | _ => false) (args.map (Act.eval ⟨ct, ds⟩)) = (do pure (Next.value (← Builtin.min_ ts type (args.map (Act.eval ⟨ct, ds⟩))))) from rfl, run_value hz']
    exact done_val h ds dst hrz
  · rename_i x r hal
    obtain ⟨y, hy, rfl⟩ := val_some hq
    obtain ⟨z, hz, hrz⟩ := sound_min (P := P) amax Builtin.max2 (fun a b r u v hr hu hv => by
      cases a <;> cases b <;> (try simp only [amax] at hr) <;> try (cases hr; done)
      injection hr with hr; subst hr
      rw [hu.int_inv, hv.int_inv]
      exact ⟨_, rfl, .int _ _⟩) h ds r _ _ (h.ev x ds) hy
    have hz' : (Builtin.max_ ts type (args.map (Act.eval ⟨ct, ds⟩))).run P C.w = .ok z C.w := by
      rw [map_list args _ hal]
      exact hz
    rw [show builtin .max ts type (args.map fun | .const _ => true | _ => false) (args.map (Act.eval ⟨ct, ds⟩)) = (do pure (Next.value (← Builtin.max_ ts type (args.map (Act.eval ⟨ct, ds⟩))))) from rfl, run_value hz']
    exact done_val h ds dst hrz
  · rename_i x y hal
    by_cases hmu : appendsAt ro.mu ts.toList = true
    · rw [if_pos hmu] at hq
      exact sound_appendM h ds ro.lo args ts dst type hal hq
    · rw [if_neg hmu] at hq
      split at hq
      · rename_i u xs hu
        exact sound_appendO h ds args ts dst type hal hu hq
      · rename_i u hu
        exact sound_appendC h ds args ts dst type hal hu hq
      · cases hq
  · cases hq
/-- What a call comes to. -/
def Ans (P : Program) (f : FuncId) (vs : Array Value) (w : World) (R : Value → World → Prop) : Prop :=
  ∀ (o : Oper) (a : Act) (next : Act → World → Prop) (Q : Exit → Act → World → Prop), (∀ v w', R v w' → next (a.put o.dst v) w') → Oper.upon P o a next Q ((callFunc f vs).run P w)
/-- A call leaves what the machine tells. -/
def Left (C : Cx) (B : Nat) (F : Nat → Nat → Prop) (w0 : World) (r : Res) (v : Value) (w' : World) : Prop :=
  ∃ D : Cx, D.w = w' ∧ C.Le D ∧ D.nx = r.nx ∧ WRel D B F w0 r.hp [] #[] ∧ RV D r.v v ∧ (r.own = true → OwnOk D B F r.hp r.v v ∧ ∀ k v' cv', Owned D r.hp [] #[] k v' cv' → ∀ b o, Tail r.v v b o → ¬ Tail v' cv' b o)
def GoodCall (P : Program) (call : CallF) : Prop :=
  ∀ f args ro nx hp r, call f args ro nx hp = some r → ∀ (C : Cx) (B : Nat) (F : Nat → Nat → Prop) (w0 : World) (vs : List Value), C.nx = nx → WRel C B F w0 hp [] #[] → vs.length = args.length → (∀ (i : Nat) (a : AVal) (v : Value), args[i]? = some a → vs[i]? = some v → RV C a v) →
    Ans P f vs.toArray C.w (Left C B F w0 r)
/-- What the slots own is not the callee's. -/
def Fore (F : Nat → Nat → Prop) (tm : List Cell) (ct : Array Value) (b o : Nat) : Prop := F b o ∨ ∃ (t : Nat) (v : AVal) (cv : Value), tm[t]? = some (v, true) ∧ ct[t]? = some cv ∧ Tail v cv b o
theorem Owned.none_frame {k : Nat × Nat} {v : AVal} {cv : Value} (h : Owned C hp [] #[] k v cv) : ∃ id i, k = (id + 1, i) ∧ Owned C hp tm ct k v cv := by
  obtain ⟨i, t⟩ := k
  cases i with
  | zero => simp [Owned] at h
  | succ id => exact ⟨id, t, rfl, h⟩
theorem WRel.leave (h : WRel C B F w0 hp tm ct) : WRel C B (Fore F tm ct) w0 hp [] #[] := by
  refine ⟨⟨h.heap.below, h.heap.base, h.heap.ids, h.heap.blk, h.heap.inj, fun i hi => ?_, h.heap.imm, fun b o hF => ?_, h.heap.mapb⟩, rfl, fun t c ht => by simp at ht, fun k v cv ho => ?_, fun k1 k2 v1 c1 v2 c2 h1 h2 hne => ?_⟩
  · obtain ⟨a1, a2, a3⟩ := h.heap.out i hi
    refine ⟨a1, a2, fun o => ⟨(a3 o).1, fun hF => ?_⟩⟩
    rcases hF with hF | ⟨t, v, cv, h1, h2, h3⟩
    · exact (a3 o).2 hF
    · exact ((h.own (0, t) v cv ⟨h1, h2⟩).cells _ _ h3).2.2.2.1 i hi rfl
  · rcases hF with hF | ⟨t, v, cv, h1, h2, h3⟩
    · exact h.heap.far b o hF
    · obtain ⟨_, b2, _, _, b5, b6⟩ := (h.own (0, t) v cv ⟨h1, h2⟩).cells _ _ h3
      exact ⟨b5, b6, b2⟩
  · obtain ⟨id, i, rfl, ho'⟩ := Owned.none_frame (tm := tm) (ct := ct) ho
    have q := h.own _ _ _ ho'
    refine ⟨q.form, fun b o t => ?_⟩
    obtain ⟨a1, a2, a3, a4, a5, a6⟩ := q.cells b o t
    refine ⟨a1, a2, fun hF => ?_, a4, a5, a6⟩
    rcases hF with hF | ⟨t', v', cv', h1, h2, h3⟩
    · exact a3 hF
    · exact h.sep _ (0, t') _ _ _ _ ho' ⟨h1, h2⟩ (by simp) b o t h3
  · obtain ⟨_, _, rfl, h1'⟩ := Owned.none_frame (tm := tm) (ct := ct) h1
    obtain ⟨_, _, rfl, h2'⟩ := Owned.none_frame (tm := tm) (ct := ct) h2
    exact h.sep _ _ _ _ _ _ h1' h2' hne
/-- Back behind a call. -/
theorem WRel.back (h : WRel C B F w0 hp tm ct) {D : Cx} {hp' : Heap} (le : C.Le D) (hD : WRel D B (Fore F tm ct) w0 hp' [] #[]) : WRel D B F w0 hp' tm ct := by
  refine ⟨⟨hD.heap.below, hD.heap.base, hD.heap.ids, hD.heap.blk, hD.heap.inj, fun i hi => ?_, hD.heap.imm, fun b o hF => hD.heap.far b o (.inl hF), hD.heap.mapb⟩, h.size, fun t c ht => ?_, fun k v cv ho => ?_, fun k1 k2 v1 c1 v2 c2 h1 h2 hne b o t1 t2 => ?_⟩
  · obtain ⟨a1, a2, a3⟩ := hD.heap.out i hi
    exact ⟨a1, a2, fun o => ⟨(a3 o).1, fun hF => (a3 o).2 (.inl hF)⟩⟩
  · obtain ⟨v, h1, h2⟩ := h.tmp t c ht
    exact ⟨v, h1, h2.mono le⟩
  · obtain ⟨i, t⟩ := k
    cases i with
    | zero =>
      have q := h.own (0, t) v cv ho
      refine ⟨q.form, fun b o tl => ?_⟩
      obtain ⟨a1, _, a3, _, _, _⟩ := q.cells b o tl
      obtain ⟨b1, b2, b3⟩ := hD.heap.far b o (.inr ⟨t, v, cv, ho.1, ho.2, tl⟩)
      refine ⟨a1, b3, a3, fun id hid e => ?_, b1, b2⟩
      subst e
      exact ((hD.heap.out id hid).2.2 o).2 (.inr ⟨t, v, cv, ho.1, ho.2, tl⟩)
    | succ id =>
      have q := hD.own (id + 1, t) v cv ho
      refine ⟨q.form, fun b o tl => ?_⟩
      obtain ⟨a1, a2, a3, a4, a5, a6⟩ := q.cells b o tl
      exact ⟨a1, a2, fun hF => a3 (.inl hF), a4, a5, a6⟩
  · obtain ⟨i1, s1⟩ := k1
    obtain ⟨i2, s2⟩ := k2
    cases i1 with
    | zero =>
      cases i2 with
      | zero => exact h.sep (0, s1) (0, s2) v1 c1 v2 c2 h1 h2 hne b o t1 t2
      | succ id2 => exact ((hD.own (id2 + 1, s2) v2 c2 h2).cells b o t2).2.2.1 (.inr ⟨s1, v1, c1, h1.1, h1.2, t1⟩)
    | succ id1 =>
      cases i2 with
      | zero => exact ((hD.own (id1 + 1, s1) v1 c1 h1).cells b o t1).2.2.1 (.inr ⟨s2, v2, c2, h2.1, h2.2, t2⟩)
      | succ id2 => exact hD.sep (id1 + 1, s1) (id2 + 1, s2) v1 c1 v2 c2 h1 h2 hne b o t1 t2
/-- The operation has gone through, a call perhaps. -/
theorem sound_oper {call : CallF} (hcall : GoodCall P call) (h : WRel C B F w0 hp tm ct) (ds : List Deferred) (ops : Array Oper) (ro : Md) (o : Oper) {q : Out} (hq : aeff P call ops ro o (ev tm) C.nx hp = some q) (next : Act → World → Prop) (Q : Exit → Act → World → Prop)
    (hn : ∀ (D : Cx) u, C.Le D → D.nx = q.nx → WRel D B F w0 q.hp (q.put o.dst tm).tm ((⟨ct, ds⟩ : Act).put o.dst u).tmps → next ((⟨ct, ds⟩ : Act).put o.dst u) D.w) : o.wp P ⟨ct, ds⟩ C.w next Q := by
  have done : ∀ r, Done C B F w0 tm ⟨ct, ds⟩ o.dst q r → o.upon P ⟨ct, ds⟩ next Q r := by
    rintro r ⟨D, n, u, rfl, hnu, le, hx, hW, _⟩
    have := hn D u le hx hW
    rcases hnu with rfl | ⟨rfl, rfl⟩
    · exact this
    · exact this
  obtain ⟨dst, op, type, pos, after, guard⟩ := o
  unfold Oper.wp
  cases op <;> first | exact done _ (sound_aeff0 h ds ops ro _ hq) | skip
  rename_i c
  obtain ⟨callee, args, ts⟩ := c
  cases callee with
  | invoke a b => cases hq
  | builtin b => exact done _ (sound_builtin h ds ro b args ts dst type pos after guard hq)
  | value f =>
    have hf := h.ev f ds
    simp only [aeff, acall] at hq
    cases hv : (ev tm f).1 <;> rw [hv] at hq hf <;> (try simp only at hq) <;> try (cases hq; done)
    rename_i g fs cs
    obtain ⟨fv, cv, e, hfl, hcl, hfr, hcr⟩ := hf.clo_inv
    cases hc : call g (fs ++ List.map (fun x => argOf ro.mu x (ev tm x).1) args.toList ++ cs) ro.lo C.nx hp with
    | none => rw [hc] at hq; cases hq
    | some r =>
      rw [hc] at hq
      simp only at hq
      injection hq with hq; subst hq
      have hex : (execOp (Act.eval ⟨ct, ds⟩) ⟨dst, .call { callee := .value f, args := args, argTypes := ts }, type, pos, after, guard⟩) = callFunc g ((fv ++ args.toList.map (Act.eval ⟨ct, ds⟩) ++ cv).toArray) := by
        have : (fv.toArray ++ args.map (Act.eval ⟨ct, ds⟩)) ++ cv.toArray = (fv ++ args.toList.map (Act.eval ⟨ct, ds⟩) ++ cv).toArray := by apply Array.ext'; simp
        rw [← this]
        show (do let d ← resolve (Act.eval ⟨ct, ds⟩) { callee := .value f, args := args, argTypes := ts } type; invoke d.target d.args : Sem Next) = _
        simp only [resolve, e, Deferred.ofValue]
        rfl
      rw [hex]
      have happ : ∀ (i : Nat) a v, (fs ++ List.map (fun x => argOf ro.mu x (ev tm x).1) args.toList ++ cs)[i]? = some a → (fv ++ args.toList.map (Act.eval ⟨ct, ds⟩) ++ cv)[i]? = some v → RV C a v := by
        intro i a v ha hv'
        rw [List.append_assoc] at ha hv'
        rcases Nat.lt_or_ge i fs.length with h1 | h1
        · rw [List.getElem?_append_left h1] at ha
          rw [List.getElem?_append_left (by omega)] at hv'
          exact hfr i a v ha hv'
        · rw [List.getElem?_append_right h1] at ha
          rw [List.getElem?_append_right (by omega), hfl] at hv'
          rcases Nat.lt_or_ge (i - fs.length) args.toList.length with h2 | h2
          · rw [List.getElem?_append_left (by simpa using h2), List.getElem?_map] at ha
            rw [List.getElem?_append_left (by simpa using h2), List.getElem?_map] at hv'
            obtain ⟨x, hx, rfl⟩ := Option.map_eq_some_iff.1 ha
            rw [hx] at hv'; injection hv' with hv'; subst hv'
            exact argOf_rv x _ ds (h.ev x ds)
          · rw [List.getElem?_append_right (by simpa using h2)] at ha
            rw [List.getElem?_append_right (by simpa using h2)] at hv'
            simp only [List.length_map] at ha hv'
            exact hcr _ a v ha hv'
      refine hcall g _ ro.lo C.nx hp r hc C B (Fore F tm ct) w0 _ rfl h.leave (by simp [hfl, hcl]) happ _ _ next Q ?_
      rintro v w' ⟨D, rfl, le, hx, hW, hr, ho⟩
      have hb := h.back le hW
      refine hn D v le hx ?_
      cases dst with
      | none => exact hb
      | some d =>
        show WRel D B F w0 r.hp (tm.set d (r.v, r.own)) (ct.setIfInBounds d v)
        cases hro : r.own with
        | false => exact hb.put d hr
        | true =>
          obtain ⟨o1, o2⟩ := ho hro
          refine hb.puto d hr ⟨o1.form, fun b o tl => ?_⟩ (fun k v' cv' hk _ b o tl tl' => ?_)
          · obtain ⟨a1, a2, a3, a4, a5, a6⟩ := o1.cells b o tl
            exact ⟨a1, a2, fun hF => a3 (.inl hF), a4, a5, a6⟩
          · obtain ⟨i, t⟩ := k
            cases i with
            | zero => exact ((o1.cells b o tl).2.2.1) (.inr ⟨t, v', cv', hk.1, hk.2, tl'⟩)
            | succ id => exact o2 (id + 1, t) v' cv' hk b o tl tl'
end
end Go.Proofs.YtkpfkadjmijmlaaGreatDoor.M
/- Two new variables change places. -/
namespace Go.Proofs.YtkpfkadjmijmlaaGreatDoor.M
open Go Go.RowKit
set_option linter.unusedVariables false
set_option linter.unusedSimpArgs false
def bIds (n : Nat) : ABlk → Prop
  | .cells cs => ∀ c ∈ cs, c.1.idsLt n = true
  | .map es => ∀ p ∈ es, p.1.idsLt n = true ∧ p.2.idsLt n = true
def WF (n : Nat) (tm : List Cell) (hp : Heap) : Prop := (∀ (t : Nat) (c : Cell), tm[t]? = some c → c.1.idsLt n = true) ∧ ∀ id b, hget hp id = some b → id < n ∧ bIds n b
/-- The later state is the one that the text's order comes to. -/
def Sw (n : Nat) (s1 s2 : St) : Prop := ∃ (a b : Nat) (zs : List Cell) (tm : List Cell) (hp : Heap), a ≠ b ∧ WF n tm hp ∧ (∀ c ∈ zs, c.1.idsLt n = true) ∧
  s1 = ⟨(tm.set b (.ptr n 0, false)).set a (.ptr (n + 1) 0, false), n + 2, (n + 1, .cells zs) :: (n, .cells zs) :: hp⟩ ∧
  s2 = ⟨(tm.set a (.ptr n 0, false)).set b (.ptr (n + 1) 0, false), n + 2, (n + 1, .cells zs) :: (n, .cells zs) :: hp⟩
theorem idsLts_all {n : Nat} : ∀ {l : List AVal}, idsLts n l = true ↔ ∀ v ∈ l, v.idsLt n = true
  | [] => by simp [idsLts]
  | v :: r => by simp [idsLts, idsLts_all (l := r)]
theorem flat_ids {n : Nat} {v : AVal} (h : ∀ u ∈ v.flat, u.idsLt n = true) : v.idsLt n = true := by
  cases v with
  | agg cs => simp only [AVal.idsLt]; exact idsLts_all.2 h
  | _ => exact h _ (by simp [AVal.flat])
theorem ids_flat {n : Nat} {v : AVal} (h : v.idsLt n = true) : ∀ u ∈ v.flat, u.idsLt n = true := by
  cases v with
  | agg cs => simp only [AVal.idsLt] at h; exact idsLts_all.1 h
  | _ => intro u hu; simp [AVal.flat] at hu; subst hu; exact h
theorem flats_ids {n : Nat} {l : List AVal} (h : ∀ u ∈ flats l, u.idsLt n = true) : ∀ v ∈ l, v.idsLt n = true := fun v hv => flat_ids fun u hu => h u (List.mem_flatMap.2 ⟨v, hv, hu⟩)
theorem ids_flats {n : Nat} {l : List AVal} (h : ∀ v ∈ l, v.idsLt n = true) : ∀ u ∈ flats l, u.idsLt n = true := fun u hu => by
  obtain ⟨v, hv, hu⟩ := List.mem_flatMap.1 hu
  exact ids_flat (h v hv) u hu
theorem mem_at {α : Type} {l : List α} {P : α → Prop} (h : ∀ (i : Nat) a, l[i]? = some a → P a) : ∀ a ∈ l, P a := fun a ha => by
  obtain ⟨i, hi⟩ := List.getElem?_of_mem ha
  exact h i a hi
theorem len_at {α β : Type} {l : List α} {m : List β} (h : m.length = l.length) {i : Nat} {a : α} (ha : l[i]? = some a) : ∃ b, m[i]? = some b := by
  have := (List.getElem?_eq_some_iff.1 ha).1
  exact ⟨m[i]'(by omega), List.getElem?_eq_getElem (by omega)⟩
theorem RV.ids {C : Cx} {v : AVal} {x : Value} (h : RV C v x) : v.idsLt C.nx = true := by
  induction h with
  | agg cs vs hl h1 h ih =>
    simp only [AVal.idsLt]
    exact idsLts_all.2 (mem_at fun i a ha => by obtain ⟨b, hb⟩ := len_at hl ha; exact ih i a b ha hb)
  | lst xs A c sz cu hc hz hs h1 hm h ih =>
    simp only [AVal.idsLt]
    exact idsLts_all.2 (flats_ids (mem_at fun i a ha => ih i a ha))
  | tup cs vs hl h ih =>
    simp only [AVal.idsLt]
    exact idsLts_all.2 (mem_at fun i a ha => by obtain ⟨b, hb⟩ := len_at hl ha; exact ih i a b ha hb)
  | ptr id off hid => simp only [AVal.idsLt]; exact decide_eq_true hid
  | pel e off b o cu h1 hm h ih => simp only [AVal.idsLt]; exact flat_ids (mem_at fun i a ha => ih i a ha)
  | map id hid => simp only [AVal.idsLt]; exact decide_eq_true hid
  | sl id off len sz c ag hid hc hx => simp only [AVal.idsLt]; exact decide_eq_true hid
  | clo f fs cs fv cv hf hl h h' ih ih' =>
    simp only [AVal.idsLt, Bool.and_eq_true]
    exact ⟨idsLts_all.2 (mem_at fun i a ha => by obtain ⟨b, hb⟩ := len_at hf ha; exact ih i a b ha hb), idsLts_all.2 (mem_at fun i a ha => by obtain ⟨b, hb⟩ := len_at hl ha; exact ih' i a b ha hb)⟩
  | _ => simp only [AVal.idsLt]
theorem RV.swp {C D : Cx} {n : Nat} (hι : ∀ i, i < n → D.ι i = C.ι i) (hI : D.I = C.I) (hw : D.w = C.w) (hn : n ≤ D.nx) {v : AVal} {x : Value} (h : RV C v x) : v.idsLt n = true → RV D v x := by
  induction h with
  | int k n => exact fun _ => .int k n
  | bool b => exact fun _ => .bool b
  | str s => exact fun _ => .str s
  | agg cs vs hl h1 h ih =>
    intro hv
    simp only [AVal.idsLt] at hv
    exact .agg cs vs hl h1 fun i a v ha hv' => ih i a v ha hv' (idsLts_all.1 hv a (List.mem_of_getElem? ha))
  | lst xs A c sz cu hc hz hs h1 hm h ih =>
    intro hv
    simp only [AVal.idsLt] at hv
    refine .lst xs A c sz cu hc hz hs h1 (fun i u hu => ?_) fun i u hu => ih i u hu (ids_flats (idsLts_all.1 hv) u (List.mem_of_getElem? hu))
    rw [hI, hw]; exact hm i u hu
  | tup cs vs hl h ih =>
    intro hv
    simp only [AVal.idsLt] at hv
    exact .tup cs vs hl fun i a v ha hv' => ih i a v ha hv' (idsLts_all.1 hv a (List.mem_of_getElem? ha))
  | ptr id off hid =>
    intro hv
    simp only [AVal.idsLt, decide_eq_true_eq] at hv
    rw [← hι id hv]; exact .ptr id off (by omega)
  | pel e off b o cu h1 hm h ih =>
    intro hv
    simp only [AVal.idsLt] at hv
    refine .pel e off b o cu h1 (fun i u hu => ?_) fun i u hu => ih i u hu (ids_flat hv u (List.mem_of_getElem? hu))
    rw [hI, hw]; exact hm i u hu
  | map id hid =>
    intro hv
    simp only [AVal.idsLt, decide_eq_true_eq] at hv
    rw [← hι id hv]; exact .map id (by omega)
  | sl id off len sz c ag hid hc hx =>
    intro hv
    simp only [AVal.idsLt, decide_eq_true_eq] at hv
    rw [← hι id hv]
    refine .sl id off len sz c ag (by omega) hc fun o ho => ?_
    rw [hι id hv, hw]; exact hx o ho
  | clo f fs cs fv cv hf hl h h' ih ih' =>
    intro hv
    simp only [AVal.idsLt, Bool.and_eq_true] at hv
    exact .clo f fs cs fv cv hf hl (fun i a v ha hv' => ih i a v ha hv' (idsLts_all.1 hv.1 a (List.mem_of_getElem? ha))) fun i a v ha hv' => ih' i a v ha hv' (idsLts_all.1 hv.2 a (List.mem_of_getElem? ha))
  | nilp => exact fun _ => .nilp
  | nilf => exact fun _ => .nilf
  | nilm => exact fun _ => .nilm
  | nils => exact fun _ => .nils
  | bad v => exact fun _ => .bad v
theorem WRel.wf {C : Cx} {B : Nat} {F : Nat → Nat → Prop} {w0 : World} {hp : Heap} {tm : List Cell} {ct : Array Value} (h : WRel C B F w0 hp tm ct) : WF C.nx tm hp := by
  refine ⟨fun t c hc => ?_, fun id b hb => ⟨h.heap.ids id (by rw [hb]; rfl), ?_⟩⟩
  · obtain ⟨v, _, hv⟩ := h.tmp t c hc
    exact hv.ids
  · cases b with
    | cells cs =>
      obtain ⟨vs, ty, _, _, h3⟩ := h.heap.blk id cs hb
      exact mem_at fun i c hc => by obtain ⟨_, v, _, hv⟩ := h3 i c hc; exact hv.ids
    | map es =>
      obtain ⟨ents, clk, _, _, _, h3⟩ := h.heap.mapb id es hb
      exact mem_at fun i p hp => by obtain ⟨x, _, q1, q2⟩ := h3 i p hp; exact ⟨q1.ids, q2.ids⟩
def sw2 (n i : Nat) : Nat := if i = n then n + 1 else if i = n + 1 then n else i
theorem sw2_sw2 (n i : Nat) : sw2 n (sw2 n i) = i := by unfold sw2; grind
theorem WRel.swap {C : Cx} {B : Nat} {F : Nat → Nat → Prop} {w0 : World} {n : Nat} {s1 s2 : St} {ct : Array Value} (h : WRel C B F w0 s1.hp s1.tm ct) (hn : C.nx = s1.nx) (hs : Sw n s1 s2) :
    ∃ D : Cx, D.w = C.w ∧ D.nx = s2.nx ∧ (∀ C0 : Cx, C0.nx ≤ n → C0.Le C → C0.Le D) ∧ WRel D B F w0 s2.hp s2.tm ct := by
  obtain ⟨a, b, zs, tm, hp, hab, hwf, hz, rfl, rfl⟩ := hs
  simp only at h hn ⊢
  have hn2 : n + 2 = C.nx := hn.symm
  refine ⟨{ C with ι := fun i => C.ι (sw2 n i) }, rfl, hn, fun C0 h0 le => ⟨le.nx, fun i hi => ?_, le.imm, le.cell, le.ex⟩, ?_⟩
  · have : sw2 n i = i := by unfold sw2; grind
    show C.ι (sw2 n i) = _
    rw [this]; exact le.map i hi
  generalize hH : ((n + 1, ABlk.cells zs) :: (n, ABlk.cells zs) :: hp : Heap) = H at *
  have key : ∀ id, hget H (sw2 n id) = hget H id := by
    intro id
    subst hH
    simp only [hget, sw2]
    by_cases e1 : id = n
    · subst e1; simp
    · by_cases e2 : id = n + 1
      · subst e2; simp
      · simp [e1, e2]
  have hids : ∀ id b, hget H id = some b → bIds n b := by
    intro id b hb
    subst hH
    simp only [hget] at hb
    split at hb
    · cases hb; exact hz
    · split at hb
      · cases hb; exact hz
      · exact (hwf.2 id b hb).2
  have rv : ∀ {v x}, RV C v x → v.idsLt n = true → RV { C with ι := fun i => C.ι (sw2 n i) } v x := fun hv hi => RV.swp (C := C) (D := { C with ι := fun i => C.ι (sw2 n i) }) (n := n) (fun i hi => by
    have : sw2 n i = i := by unfold sw2; grind
    show C.ι (sw2 n i) = _
    rw [this]) rfl rfl (by show n ≤ C.nx; omega) hv hi
  have hswi : ∀ {i j}, sw2 n i = sw2 n j → i = j := fun {i j} e => by have := congrArg (sw2 n) e; rwa [sw2_sw2, sw2_sw2] at this
  have hlt : ∀ t, ((tm.set a (.ptr n 0, false)).set b (.ptr (n + 1) 0, false))[t]? = if b = t then tm[t]?.map (fun _ => (.ptr (n + 1) 0, false)) else if a = t then tm[t]?.map (fun _ => (.ptr n 0, false)) else tm[t]? := by
    intro t
    simp only [List.getElem?_set, List.length_set]
    by_cases e1 : b = t
    · subst e1
      by_cases e : b < tm.length <;> simp [e]
    · by_cases e2 : a = t
      · subst e2
        by_cases e : a < tm.length <;> simp [e1, e]
      · simp [e1, e2]
  have hlt1 : ∀ t, ((tm.set b (.ptr n 0, false)).set a (.ptr (n + 1) 0, false))[t]? = if a = t then tm[t]?.map (fun _ => (.ptr (n + 1) 0, false)) else if b = t then tm[t]?.map (fun _ => (.ptr n 0, false)) else tm[t]? := by
    intro t
    simp only [List.getElem?_set, List.length_set]
    by_cases e1 : a = t
    · subst e1
      by_cases e : a < tm.length <;> simp [e]
    · by_cases e2 : b = t
      · subst e2
        by_cases e : b < tm.length <;> simp [e1, e]
      · simp [e1, e2]
  have own : ∀ k v cv, Owned { C with ι := fun i => C.ι (sw2 n i) } H ((tm.set a (.ptr n 0, false)).set b (.ptr (n + 1) 0, false)) ct k v cv → Owned C H ((tm.set b (.ptr n 0, false)).set a (.ptr (n + 1) 0, false)) ct (match k with | (0, t) => (0, t) | (id + 1, i) => (sw2 n id + 1, i)) v cv := by
    rintro ⟨k, i⟩ v cv ho
    cases k with
    | zero =>
      obtain ⟨h1, h2⟩ := ho
      refine ⟨?_, h2⟩
      rw [hlt] at h1
      rw [hlt1]
      split at h1
      · cases ht : tm[i]? with
        | none => rw [ht] at h1; cases h1
        | some c => rw [ht] at h1; cases h1
      · rename_i e1
        split at h1
        · cases ht : tm[i]? with
          | none => rw [ht] at h1; cases h1
          | some c => rw [ht] at h1; cases h1
        · rename_i e2
          rw [if_neg e2, if_neg e1]; exact h1
    | succ id =>
      obtain ⟨cs, vs, ty, h1, h2, h3, h4⟩ := ho
      exact ⟨cs, vs, ty, (key id).trans h1, h2, h3, h4⟩
  refine ⟨⟨h.heap.below, h.heap.base, h.heap.ids, fun id cs hg => ?_, fun i j hi hj e => ?_, fun i hi => ?_, h.heap.imm, h.heap.far, fun id es hg => ?_⟩, ?_, fun t c hc => ?_, fun k v cv ho => ?_, fun k1 k2 v1 c1 v2 c2 h1 h2 hne => ?_⟩
  · obtain ⟨vs, ty, q1, q2, q3⟩ := h.heap.blk (sw2 n id) cs ((key id).trans hg)
    refine ⟨vs, ty, q1, q2, fun i c hc => ?_⟩
    obtain ⟨r1, v, r2, r3⟩ := q3 i c hc
    exact ⟨r1, v, r2, rv r3 (hids id _ hg c (List.mem_of_getElem? hc))⟩
  · exact hswi (h.heap.inj _ _ (by rw [key]; exact hi) (by rw [key]; exact hj) e)
  · exact h.heap.out (sw2 n i) (by rw [key]; exact hi)
  · obtain ⟨ents, clk, q1, q2, qst, q3⟩ := h.heap.mapb (sw2 n id) es ((key id).trans hg)
    refine ⟨ents, clk, q1, q2, qst, fun i p hp => ?_⟩
    obtain ⟨x, r1, r2, r3⟩ := q3 i p hp
    have := hids id _ hg p (List.mem_of_getElem? hp)
    exact ⟨x, r1, rv r2 this.1, rv r3 this.2⟩
  · have := h.size
    simp at this ⊢
    exact this
  · have h1 := h.tmp t
    rw [hlt1] at h1
    rw [hlt] at hc
    by_cases e1 : b = t
    · rw [if_pos e1] at hc
      have e2 : a ≠ t := fun e => hab (e.trans e1.symm)
      rw [if_neg e2, if_pos e1] at h1
      cases ht : tm[t]? with
      | none => rw [ht] at hc; cases hc
      | some c0 =>
        rw [ht] at hc h1
        cases hc
        obtain ⟨v, q1, q2⟩ := h1 _ rfl
        refine ⟨v, q1, ?_⟩
        cases q2
        have e : sw2 n (n + 1) = n := by unfold sw2; simp
        have := RV.ptr (C := { C with ι := fun i => C.ι (sw2 n i) }) (n + 1) 0 (by show n + 1 < C.nx; omega)
        simp only [e] at this
        exact this
    · rw [if_neg e1] at hc
      by_cases e2 : a = t
      · rw [if_pos e2] at hc h1
        cases ht : tm[t]? with
        | none => rw [ht] at hc; cases hc
        | some c0 =>
          rw [ht] at hc h1
          cases hc
          obtain ⟨v, q1, q2⟩ := h1 _ rfl
          refine ⟨v, q1, ?_⟩
          cases q2
          have e : sw2 n n = n + 1 := by unfold sw2; simp
          have := RV.ptr (C := { C with ι := fun i => C.ι (sw2 n i) }) n 0 (by show n < C.nx; omega)
          simp only [e] at this
          exact this
      · rw [if_neg e2] at hc h1
        rw [if_neg e1] at h1
        obtain ⟨v, q1, q2⟩ := h1 c hc
        exact ⟨v, q1, rv q2 (hwf.1 t c hc)⟩
  · have := h.own _ v cv (own k v cv ho)
    refine ⟨this.form, fun b o ht => ?_⟩
    obtain ⟨q1, q2, q3, q4, q5, q6⟩ := this.cells b o ht
    exact ⟨q1, q2, q3, fun id hid => q4 (sw2 n id) (by rw [key]; exact hid), q5, q6⟩
  · refine h.sep _ _ v1 c1 v2 c2 (own k1 v1 c1 h1) (own k2 v2 c2 h2) fun e => hne ?_
    obtain ⟨k1, i1⟩ := k1
    obtain ⟨k2, i2⟩ := k2
    cases k1 with
    | zero => cases k2 with
      | zero => exact e
      | succ k2 => simp at e
    | succ k1 => cases k2 with
      | zero => simp at e
      | succ k2 =>
        simp only [Prod.mk.injEq, Nat.add_right_cancel_iff] at e
        rw [hswi e.1, e.2]
end Go.Proofs.YtkpfkadjmijmlaaGreatDoor.M
/- The machine is right: operations one behind the other, code. -/
namespace Go.Proofs.YtkpfkadjmijmlaaGreatDoor.M
open Go.RowKit
set_option linter.unusedVariables false
set_option linter.unusedSimpArgs false

section
variable {P : Program} {C : Cx} {B : Nat} {F : Nat → Nat → Prop} {w0 : World} {hp : Heap} {tm : List Cell} {ct : Array Value}

theorem undef_rv : RV C (.tup []) undef := RV.tup [] [] rfl (fun i a v hi => by simp at hi)
theorem wanted_eq (h : WRel C B F w0 hp tm ct) (ops : Array Oper) (o : Oper) {b : Bool} (hb : awanted ops tm o = some b) : Region.wanted o (yielded ops ct) = b := by
  unfold awanted at hb
  unfold Region.wanted
  cases hg : o.guard with
  | none => rw [hg] at hb; cases hb; rfl
  | some q =>
    obtain ⟨j, want⟩ := q
    rw [hg] at hb
    simp only at hb ⊢
    unfold yielded
    cases hd : (ops[j]?).bind (·.dst) with
    | none => rw [hd] at hb; simp only at hb; cases hb; rfl
    | some t =>
      rw [hd] at hb
      simp only [Option.bind_some] at hb ⊢
      cases ht : tm[t]? with
      | none => rw [ht] at hb; cases hb
      | some c =>
        rw [ht] at hb
        obtain ⟨v, hv, hr⟩ := h.tmp t c ht
        rw [hv]
        obtain ⟨x, f⟩ := c
        simp only at hr
        cases hr <;> simp only [gate] at hb <;> first | (cases hb; done) | (cases hb; first | rfl | simp)
theorem sound_ops {call : CallF} (hcall : GoodCall P call) (ops : Array Oper) (ro : Md) (ds : List Deferred) (Q : Exit → Act → World → Prop) : ∀ (l : List Nat) (os : List Oper), l.map (fun i => ops[i]?) = os.map some → ∀ (C : Cx) (tm : List Cell) (hp : Heap) (ct : Array Value) (s' : St),
    WRel C B F w0 hp tm ct → aops P call ops ro os ⟨tm, C.nx, hp⟩ = some s' → (∀ (D : Cx) ct', C.Le D → D.nx = s'.nx → WRel D B F w0 s'.hp s'.tm ct' → Q .normal ⟨ct', ds⟩ D.w) → wpOps P ops Q l ⟨ct, ds⟩ C.w := by
  intro l
  induction l with
  | nil =>
    intro os hos C tm hp ct s' h hr hQ
    have : os = [] := by simpa using hos.symm
    subst this
    injection hr with hr; subst hr
    exact hQ C ct (Cx.Le.refl C) rfl h
  | cons i l ih =>
    intro os hos C tm hp ct s' h hr hQ
    cases os with
    | nil => simp at hos
    | cons o os =>
      simp only [List.map_cons, List.cons.injEq] at hos
      obtain ⟨ho, hos⟩ := hos
      simp only [aops] at hr
      obtain ⟨s1, h1, h2⟩ := Option.bind_eq_some_iff.1 hr
      unfold astep at h1
      simp only [wpOps, ho]
      cases hw : awanted ops tm o with
      | none => simp only [hw] at h1; cases h1
      | some q =>
        simp only [hw] at h1
        have hwe := wanted_eq h ops o hw
        simp only [hwe]
        cases q with
        | false =>
          simp only at h1
          injection h1 with h1; subst h1
          simp only [Bool.false_eq_true, if_false]
          cases hd : o.dst with
          | none =>
            rw [hd] at h2
            exact ih os hos C tm hp ct s' h h2 hQ
          | some d =>
            rw [hd] at h2
            exact ih os hos C (tm.set d (.tup [], false)) hp (ct.setIfInBounds d undef) s' (h.put d undef_rv) h2 hQ
        | true =>
          simp only at h1
          obtain ⟨q, hq, rfl⟩ := Option.map_eq_some_iff.1 h1
          simp only [if_true]
          refine .inl (sound_oper hcall h ds ops ro o hq _ Q fun D u le hx hW => ?_)
          have hput : ((⟨ct, ds⟩ : Act).put o.dst u) = ⟨((⟨ct, ds⟩ : Act).put o.dst u).tmps, ds⟩ := by
            cases o.dst <;> rfl
          rw [hput]
          have hs1 : (q.put o.dst tm) = ⟨(q.put o.dst tm).tm, D.nx, q.hp⟩ := by rw [hx]; rfl
          rw [hs1] at h2
          exact ih os hos D _ _ _ s' hW h2 (fun E ct' le' hx' hW' => hQ E ct' (le.trans le') hx' hW')
theorem range_map (ops : Array Oper) : (List.range ops.size).map (fun i => ops[i]?) = ops.toList.map some := by
  apply List.ext_getElem (by simp)
  intro i h1 h2
  simp at h1
  simp [h1]
def toExit : AExit → Exit
  | .normal => .normal
  | .ret => .ret
  | .exit id => .exit id
/-- A run in which two new variables may change places. -/
inductive DRun (P : Program) (call : CallF) (ops : Array Oper) (ro : Md) (k : Nat) : List Oper → St → St → Prop
  | nil (s : St) : DRun P call ops ro k [] s s
  | op {o : Oper} {os : List Oper} {s s1 s' : St} : astep P call ops ro o s = some s1 → DRun P call ops ro k os s1 s' → DRun P call ops ro k (o :: os) s s'
  | sw {n : Nat} {os : List Oper} {s1 s2 s' : St} : k ≤ n → Sw n s1 s2 → DRun P call ops ro k os s2 s' → DRun P call ops ro k os s1 s'
theorem sound_drun {call : CallF} (hcall : GoodCall P call) (ops : Array Oper) (ro : Md) (ds : List Deferred) (Q : Exit → Act → World → Prop) {k : Nat} {C0 : Cx} (h0 : C0.nx = k) {os : List Oper} {s s' : St} (hr : DRun P call ops ro k os s s') : ∀ (l : List Nat), l.map (fun i => ops[i]?) = os.map some → ∀ (C : Cx) (ct : Array Value),
    C0.Le C → C.nx = s.nx → WRel C B F w0 s.hp s.tm ct → (∀ (D : Cx) ct', C0.Le D → D.nx = s'.nx → WRel D B F w0 s'.hp s'.tm ct' → Q .normal ⟨ct', ds⟩ D.w) → wpOps P ops Q l ⟨ct, ds⟩ C.w := by
  induction hr with
  | nil s =>
    intro l hl C ct le hx h hQ
    have : l = [] := by simpa using hl
    subst this
    exact hQ C ct le hx h
  | @sw n os s1 s2 s' hk hs _ ih =>
    intro l hl C ct le hx h hQ
    obtain ⟨D, hw, hx', hle, hW⟩ := h.swap hx hs
    have := ih l hl D ct (hle C0 (by omega) le) hx' hW hQ
    rwa [hw] at this
  | @op o os s s1 s' h1 _ ih =>
    intro l hl C ct le hx h hQ
    cases l with
    | nil => simp at hl
    | cons i l =>
      simp only [List.map_cons, List.cons.injEq] at hl
      obtain ⟨ho, hl⟩ := hl
      obtain ⟨tm, nx, hp⟩ := s
      simp only at hx h
      subst hx
      unfold astep at h1
      simp only [wpOps, ho]
      cases hw : awanted ops tm o with
      | none => simp only [hw] at h1; cases h1
      | some q =>
        simp only [hw] at h1
        have hwe := wanted_eq h ops o hw
        simp only [hwe]
        cases q with
        | false =>
          simp only at h1
          injection h1 with h1; subst h1
          simp only [Bool.false_eq_true, if_false]
          cases hd : o.dst with
          | none => rw [hd] at ih; exact ih l hl C ct le rfl h hQ
          | some d => rw [hd] at ih; exact ih l hl C (ct.setIfInBounds d undef) le rfl (h.put d undef_rv) hQ
        | true =>
          simp only at h1
          obtain ⟨q, hq, rfl⟩ := Option.map_eq_some_iff.1 h1
          simp only [if_true]
          refine .inl (sound_oper hcall h ds ops ro o hq _ Q fun D u le' hx hW => ?_)
          have hput : ((⟨ct, ds⟩ : Act).put o.dst u) = ⟨((⟨ct, ds⟩ : Act).put o.dst u).tmps, ds⟩ := by
            cases o.dst <;> rfl
          rw [hput]
          exact ih l hl D _ (le.trans le') hx hW hQ
/-- Regions that draw their order. -/
def Draws (P : Program) (kd : Knd) (call : CallF) : Prop := ∀ (ops : Array Oper) (t : Nat) (ro : Md) (s s' : St), WF s.nx s.tm s.hp → areg P kd call ops ro true s = some s' →
  ∃ os : List Oper, (Region.schedule (P.follows .mixedOrders) ops t).map (fun i => ops[i]?) = os.map some ∧ DRun P call ops ro s.nx os s s'
theorem sound_exec {call : CallF} {kd : Knd} (hcall : GoodCall P call) (hdr : Draws P kd call) (ro : Md) (ds : List Deferred) : ∀ (n : Nat) (c : Code) (C : Cx) (tm : List Cell) (hp : Heap) (ct : Array Value) (x : AExit) (s' : St) (Q : Exit → Act → World → Prop),
    WRel C B F w0 hp tm ct → aexec P kd call ro n c ⟨tm, C.nx, hp⟩ = some (x, s') → (∀ (D : Cx) ct', C.Le D → D.nx = s'.nx → WRel D B F w0 s'.hp s'.tm ct' → Q (toExit x) ⟨ct', ds⟩ D.w) → c.wp P Q ⟨ct, ds⟩ C.w := by
  intro n
  induction n with
  | zero => intro c C tm hp ct x s' Q h hr; simp [aexec] at hr
  | succ n ih =>
    intro c C tm hp ct x s' Q h hr hQ
    cases c with
    | skip => simp only [aexec] at hr; injection hr with hr; injection hr with e1 e2; subst e1 e2; exact wp_skip (hQ C ct (Cx.Le.refl C) rfl h)
    | exit id => simp only [aexec] at hr; injection hr with hr; injection hr with e1 e2; subst e1 e2; exact wp_exit (hQ C ct (Cx.Le.refl C) rfl h)
    | ret => simp only [aexec] at hr; injection hr with hr; injection hr with e1 e2; subst e1 e2; exact wp_ret (hQ C ct (Cx.Le.refl C) rfl h)
    | region id ops d =>
      simp only [aexec] at hr
      obtain ⟨s1, hs1, e⟩ := Option.map_eq_some_iff.1 hr
      injection e with e1 e2; subst e1 e2
      cases d with
      | false => exact wp_region (sound_ops hcall ops ro ds Q _ _ (range_map ops) C tm hp ct s1 h hs1 hQ)
      | true =>
        refine wp_region_draw fun t => ?_
        obtain ⟨os, ho1, ho2⟩ := hdr ops t ro ⟨tm, C.nx, hp⟩ _ h.wf hs1
        obtain ⟨D, hw, le, hx, hW⟩ := h.drew
        rw [show ({ C.w with drawn := C.w.drawn + 1 } : World) = D.w from hw.symm]
        exact sound_drun hcall ops ro ds Q hx ho2 _ ho1 D ct (Cx.Le.refl D) hx hW (fun E ct' le' hx' hW' => hQ E ct' (le.trans le') hx' hW')
    | seq a b =>
      simp only [aexec] at hr
      cases ha : aexec P kd call ro n a ⟨tm, C.nx, hp⟩ with
      | none => rw [ha] at hr; cases hr
      | some q =>
        rw [ha] at hr
        obtain ⟨y, s1⟩ := q
        refine wp_seq (ih a C tm hp ct y s1 _ h ha fun D ct' le hx hW => ?_)
        cases y with
        | normal =>
          show b.wp P Q ⟨ct', ds⟩ D.w
          have hr' : aexec P kd call ro n b ⟨s1.tm, D.nx, s1.hp⟩ = some (x, s') := by rw [hx]; exact hr
          exact ih b D s1.tm s1.hp ct' x s' Q hW hr' (fun E ct2 le' hx' hW' => hQ E ct2 (le.trans le') hx' hW')
        | ret => simp only at hr; injection hr with hr; injection hr with e1 e2; subst e1 e2; exact hQ D ct' le hx hW
        | exit j => simp only at hr; injection hr with hr; injection hr with e1 e2; subst e1 e2; exact hQ D ct' le hx hW
    | cond c a b =>
      simp only [aexec] at hr
      have hc := h.ev c ds
      cases hv : evv tm c <;> rw [hv] at hr <;> (try simp only at hr) <;> try (cases hr; done)
      rename_i q
      have hv' : (ev tm c).1 = .bool q := hv
      rw [hv'] at hc
      refine wp_cond hc.bool_inv ?_
      cases q with
      | true => exact ih a C tm hp ct x s' Q h hr hQ
      | false => exact ih b C tm hp ct x s' Q h hr hQ
    | block id b =>
      simp only [aexec] at hr
      cases ha : aexec P kd call ro n b ⟨tm, C.nx, hp⟩ with
      | none => rw [ha] at hr; cases hr
      | some q =>
        rw [ha] at hr
        obtain ⟨y, s1⟩ := q
        refine wp_block (ih b C tm hp ct y s1 _ h ha fun D ct' le hx hW => ?_)
        cases y with
        | normal => simp only at hr; injection hr with hr; injection hr with e1 e2; subst e1 e2; exact hQ D ct' le hx hW
        | ret => simp only at hr; injection hr with hr; injection hr with e1 e2; subst e1 e2; exact hQ D ct' le hx hW
        | exit j =>
          simp only at hr
          show (if j = id then Q .normal _ _ else Q (.exit j) _ _)
          split at hr
          · rename_i hj
            rw [if_pos hj]
            injection hr with hr; injection hr with e1 e2; subst e1 e2
            exact hQ D ct' le hx hW
          · rename_i hj
            rw [if_neg hj]
            injection hr with hr; injection hr with e1 e2; subst e1 e2
            exact hQ D ct' le hx hW
    | loop b =>
      have key : ∀ m, m ≤ n + 1 → ∀ (C : Cx) (tm : List Cell) (hp : Heap) (ct : Array Value), WRel C B F w0 hp tm ct → aexec P kd call ro m (.loop b) ⟨tm, C.nx, hp⟩ = some (x, s') → (∀ (D : Cx) ct', C.Le D → D.nx = s'.nx → WRel D B F w0 s'.hp s'.tm ct' → Q (toExit x) ⟨ct', ds⟩ D.w) → Code.rounds P b Q m ⟨ct, ds⟩ C.w := by
        intro m
        induction m with
        | zero => intro _ C tm hp ct h hr; simp [aexec] at hr
        | succ m ihm =>
          intro hm C tm hp ct h hr hQ
          simp only [aexec] at hr
          cases ha : aexec P kd call ro m b ⟨tm, C.nx, hp⟩ with
          | none => rw [ha] at hr; cases hr
          | some q =>
            rw [ha] at hr
            obtain ⟨y, s1⟩ := q
            rw [rounds_succ]
            have ha' := aexec_mono (CallF.le.refl call) ro m n b _ (by omega) ha
            refine ih b C tm hp ct y s1 _ h ha' fun D ct' le hx hW => ?_
            cases y with
            | normal =>
              show Code.rounds P b Q m ⟨ct', ds⟩ D.w
              have hr' : aexec P kd call ro m (.loop b) ⟨s1.tm, D.nx, s1.hp⟩ = some (x, s') := by rw [hx]; exact hr
              exact ihm (by omega) D s1.tm s1.hp ct' hW hr' (fun E ct2 le' hx' hW' => hQ E ct2 (le.trans le') hx' hW')
            | ret => simp only at hr; injection hr with hr; injection hr with e1 e2; subst e1 e2; exact hQ D ct' le hx hW
            | exit j => simp only at hr; injection hr with hr; injection hr with e1 e2; subst e1 e2; exact hQ D ct' le hx hW
      exact wp_loop_rounds (n + 1) (key (n + 1) (Nat.le_refl _) C tm hp ct h hr hQ)
    | scope b => simp only [aexec] at hr; cases hr
    | rangeFunc f ps a b => simp only [aexec] at hr; cases hr
    | label l => simp only [aexec] at hr; cases hr
    | goto l => simp only [aexec] at hr; cases hr
    | refuse w => simp only [aexec] at hr; cases hr
end
end Go.Proofs.YtkpfkadjmijmlaaGreatDoor.M
/- The machine is right: functions. -/
namespace Go.Proofs.YtkpfkadjmijmlaaGreatDoor.M
open Go.RowKit
set_option linter.unusedVariables false
set_option linter.unusedSimpArgs false

/-! ### What is below ro stays -/
def RoCall (call : CallF) : Prop := ∀ f args ro nx hp r, call f args ro nx hp = some r → ro ≤ nx → nx ≤ r.nx ∧ ∀ id, id < ro → hget r.hp id = hget hp id
theorem hget_hset_ne {hp : Heap} {id j : Nat} {b : ABlk} (h : j ≠ id) : hget (hset hp id b) j = hget hp j := by rw [hget_hset, if_neg h]
theorem val_heap {nx : Nat} {hp : Heap} {x : Option AVal} {q : Out} (h : x.map (Out.val nx hp) = some q) : q.nx = nx ∧ q.hp = hp := by
  cases x with
  | none => cases h
  | some v => injection h with h; subst h; exact ⟨rfl, rfl⟩
section
variable {P : Program} {call : CallF} {kd : Knd} {ops : Array Oper} {ro nx : Nat} {md : Md} {hp : Heap}
def Safe (ro nx : Nat) (hp : Heap) (nx' : Nat) (hp' : Heap) : Prop := nx ≤ nx' ∧ ∀ id, id < ro → hget hp' id = hget hp id
theorem Safe.refl (ro nx : Nat) (hp : Heap) : Safe ro nx hp nx hp := ⟨Nat.le_refl _, fun _ _ => rfl⟩
theorem Safe.trans {n1 n2 : Nat} {h1 h2 : Heap} (a : Safe ro nx hp n1 h1) (b : Safe ro n1 h1 n2 h2) : Safe ro nx hp n2 h2 := ⟨Nat.le_trans a.1 b.1, fun id hid => (b.2 id hid).trans (a.2 id hid)⟩
theorem safe_val {x : Option AVal} {q : Out} (h : x.map (Out.val nx hp) = some q) : Safe ro nx hp q.nx q.hp := by
  obtain ⟨e1, e2⟩ := val_heap h
  rw [e1, e2]
  exact Safe.refl _ _ _
theorem safe_same {q : Out} (e1 : q.nx = nx) (e2 : q.hp = hp) : Safe ro nx hp q.nx q.hp := by
  rw [e1, e2]
  exact Safe.refl _ _ _
theorem safe_push (h : ro ≤ nx) (b : ABlk) : Safe ro nx hp (nx + 1) ((nx, b) :: hp) := ⟨Nat.le_succ _, fun id hid => by simp only [hget]; rw [if_neg (by omega)]⟩
theorem safe_set {id : Nat} (h : ro ≤ id) (b : ABlk) : Safe ro nx hp nx (hset hp id b) := ⟨Nat.le_refl _, fun j hj => hget_hset_ne (by omega)⟩
theorem amove_heap {take : Bool} {x : Operand} {c : Cell} {q : Out} (h : amove take x c nx hp = some q) : q.nx = nx ∧ q.hp = hp := by
  obtain ⟨v, f⟩ := c
  cases x <;> cases f <;> simp only [amove] at h <;> (try split at h) <;> (injection h with h; subst h; exact ⟨rfl, rfl⟩)
theorem aload_safe {d : Option Tmp} {t : TypeId} {a : AVal} {q : Out} (h : aload P ops md d t a nx hp = some q) : Safe md.lo nx hp q.nx q.hp := by
  cases a <;> (try simp only [aload] at h) <;> try (cases h; done)
  · rename_i id off
    cases hg : hget hp id with
    | none => rw [hg] at h; cases h
    | some b =>
      rw [hg] at h
      cases b <;> (try simp only at h) <;> try (cases h; done)
      rename_i cs
      cases ha : isAggT P t with
      | none => rw [ha] at h; cases h
      | some k =>
        rw [ha] at h
        cases k with
        | true => simp only at h; split at h <;> cases h; exact Safe.refl _ _ _
        | false =>
          simp only at h
          cases hc : cs[off]? with
          | none => rw [hc] at h; cases h
          | some c =>
            rw [hc] at h
            obtain ⟨v, f⟩ := c
            cases f with
            | false => simp only at h; cases h; exact Safe.refl _ _ _
            | true =>
              simp only at h
              split at h
              · split at h
                · cases h; exact Safe.refl _ _ _
                · split at h
                  · rename_i hk
                    simp only [Bool.and_eq_true, decide_eq_true_eq] at hk
                    cases h
                    exact safe_set hk.2 _
                  · cases h; exact Safe.refl _ _ _
              · cases h; exact Safe.refl _ _ _
  · exact safe_val h
theorem astore_safe {t : TypeId} {a : AVal} {x : Operand} {c : Cell} {q : Out} (h : astore P ops md t a x c nx hp = some q) : Safe md.lo nx hp q.nx q.hp := by
  cases a <;> (try simp only [astore] at h) <;> try (cases h; done)
  rename_i id off
  cases hg : hget hp id with
  | none => rw [hg] at h; cases h
  | some b =>
    rw [hg] at h
    cases b <;> (try simp only at h) <;> try (cases h; done)
    rename_i cs
    split at h
    · rename_i hc
      have key : ∀ {q : Out} {b : ABlk}, q.nx = nx → q.hp = hset hp id b → Safe md.lo nx hp q.nx q.hp := fun e1 e2 => by rw [e1, e2]; exact safe_set hc.1 _
      split at h
      · split at h <;> (cases h; exact key rfl rfl)
      · cases h; exact key rfl rfl
      · cases h; exact key rfl rfl
    · cases h
theorem aeff0_safe {o : Oper} {ρ : Rho} {q : Out} (hro : md.lo ≤ nx) (h : aeff0 P ops md o ρ nx hp = some q) : Safe md.lo nx hp q.nx q.hp := by
  obtain ⟨dst, op, type, pos, after, guard⟩ := o
  cases op <;> (try simp only [aeff0] at h) <;> try (cases h; done)
  case move x =>
    split at h
    · unfold acut at h; injection h with h; subst h; exact safe_same rfl rfl
    · obtain ⟨e1, e2⟩ := amove_heap h; exact safe_same e1 e2
  case assign x => obtain ⟨e1, e2⟩ := amove_heap h; exact safe_same e1 e2
  case pick c a b => split at h <;> cases h; exact Safe.refl _ _ _
  case alloc t =>
    split at h
    · split at h <;> cases h
      exact safe_push hro _
    · cases h
  case box t x => split at h <;> cases h; exact safe_push hro _
  case buildSlice t len ps =>
    split at h
    · split at h
      · split at h <;> cases h
        · exact safe_push hro _
        · exact Safe.refl _ _ _
      · cases h
    · cases h
  case makeMap t r =>
    cases r with
    | some x => cases h
    | none =>
      simp only at h
      split at h
      · cases h; exact safe_push hro _
      · cases h
  case insert t m k v =>
    obtain ⟨hp', hh, rfl⟩ := Option.map_eq_some_iff.1 h
    unfold amapset at hh
    split at hh
    rotate_left
    · cases hh
    split at hh
    rotate_left
    · cases hh
    split at hh
    rotate_left
    · cases hh
    split at hh
    rotate_left
    · cases hh
    split at hh
    rotate_left
    · cases hh
    rename_i hlo
    split at hh
    · cases hh; exact safe_set hlo _
    · cases hh; exact safe_set hlo _
    · cases hh
  case mapUpdate t m k v =>
    obtain ⟨hp', hh, rfl⟩ := Option.map_eq_some_iff.1 h
    unfold amapset at hh
    split at hh
    rotate_left
    · cases hh
    split at hh
    rotate_left
    · cases hh
    split at hh
    rotate_left
    · cases hh
    split at hh
    rotate_left
    · cases hh
    split at hh
    rotate_left
    · cases hh
    rename_i hlo
    split at hh
    · cases hh; exact safe_set hlo _
    · cases hh; exact safe_set hlo _
    · cases hh
  case slice t x lo hi mx =>
    obtain ⟨r, _, rfl⟩ := Option.map_eq_some_iff.1 h
    exact Safe.refl _ _ _
  case load t a => exact aload_safe h
  case store t a x => exact astore_safe h
  case nilCheck x => split at h <;> cases h <;> exact Safe.refl _ _ _
  case makeFunc fn a b =>
    cases fn <;> cases h
    exact Safe.refl _ _ _
  case extract x i =>
    split at h
    · exact safe_val h
    · cases h
  all_goals exact safe_val h
theorem aappendO_safe {ts : List TypeId} {xs : List AVal} {y : AVal} {clr : Option Tmp} {q : Out} (h : aappendO P ts xs y clr nx hp = some q) : Safe ro nx hp q.nx q.hp := by
  unfold aappendO at h
  split at h
  · split at h
    · obtain ⟨v, _, rfl⟩ := Option.map_eq_some_iff.1 h
      exact Safe.refl _ _ _
    · cases h
  · cases h
theorem safe_move {id : Nat} (hid : ro ≤ id) (hro : ro ≤ nx) (b : ABlk) : Safe ro nx hp (nx + 1) ((nx, b) :: hdel hp id) := ⟨Nat.le_succ _, fun j hj => by
  simp only [hget]
  rw [if_neg (by omega), hget_hdel0, if_neg (by omega)]⟩
theorem aappendM_safe {ts : List TypeId} {x : Operand} {c : Cell} {y : AVal} {q : Out} (hro : ro ≤ nx) (h : aappendM P ro ts x c y nx hp = some q) : Safe ro nx hp q.nx q.hp := by
  unfold aappendM at h
  split at h
  rotate_left
  · cases h
  split at h
  rotate_left
  · cases h
  split at h
  rotate_left
  · cases h
  split at h
  rotate_left
  · cases h
  split at h
  · split at h
    · cases h; exact Safe.refl _ _ _
    · split at h
      · cases h; exact safe_push hro _
      · cases h
  · split at h
    · split at h
      · rename_i hc
        cases h; exact safe_move hc.1 hro _
      · cases h
    · cases h
  · split at h
    · cases h; exact Safe.refl _ _ _
    · split at h
      · cases h; exact safe_push hro _
      · cases h
  · cases h
theorem abuiltin_safe {b : Builtin} {ts : Array TypeId} {xs : Array Operand} {ρ : Rho} {q : Out} (hro : md.lo ≤ nx) (h : abuiltin P md b ts xs ρ nx hp = some q) : Safe md.lo nx hp q.nx q.hp := by
  unfold abuiltin at h
  split at h
  · split at h
    · exact safe_val h
    · cases h
  · exact safe_val h
  · exact safe_val h
  · by_cases hm : appendsAt md.mu ts.toList = true
    · rw [if_pos hm] at h; exact aappendM_safe hro h
    · rw [if_neg hm] at h
      split at h
      · exact aappendO_safe h
      · exact aappendO_safe h
      · cases h
  · cases h
theorem aeff_plain (o : Oper) (ρ : Rho) (h : ∀ c, o.op ≠ .call c) : aeff P call ops md o ρ nx hp = aeff0 P ops md o ρ nx hp := by
  unfold aeff
  split
  · rename_i c hc; exact absurd hc (h c)
  · rfl
theorem aeff_safe (hc : RoCall call) {o : Oper} {ρ : Rho} {q : Out} (hro : md.lo ≤ nx) (h : aeff P call ops md o ρ nx hp = some q) : Safe md.lo nx hp q.nx q.hp := by
  by_cases hcall : ∃ c, o.op = .call c
  · obtain ⟨c, hop⟩ := hcall
    unfold aeff at h
    rw [hop] at h
    simp only at h
    obtain ⟨callee, args, ts⟩ := c
    cases callee with
    | invoke a b => cases h
    | builtin b => exact abuiltin_safe hro h
    | value f =>
      simp only [acall] at h
      cases hv : (ρ f).1 <;> rw [hv] at h <;> (try simp only at h) <;> try (cases h; done)
      rename_i g fs cs
      cases hk : call g (fs ++ List.map (fun x => argOf md.mu x (ρ x).1) args.toList ++ cs) md.lo nx hp with
      | none => rw [hk] at h; cases h
      | some r => rw [hk] at h; cases h; exact hc _ _ _ _ _ _ hk hro
  · rw [aeff_plain o ρ (fun c e => hcall ⟨c, e⟩)] at h
    exact aeff0_safe hro h
theorem aops_safe (hc : RoCall call) : ∀ (l : List Oper) (s s' : St), md.lo ≤ s.nx → aops P call ops md l s = some s' → Safe md.lo s.nx s.hp s'.nx s'.hp := by
  intro l
  induction l with
  | nil => intro s s' _ h; cases h; exact Safe.refl _ _ _
  | cons o l ih =>
    intro s s' hro h
    simp only [aops] at h
    obtain ⟨s1, h1, h2⟩ := Option.bind_eq_some_iff.1 h
    have : Safe md.lo s.nx s.hp s1.nx s1.hp := by
      unfold astep at h1
      split at h1
      · obtain ⟨q, hq, rfl⟩ := Option.map_eq_some_iff.1 h1
        exact aeff_safe hc hro hq
      · cases h1; exact Safe.refl _ _ _
      · cases h1
    exact this.trans (ih s1 s' (Nat.le_trans hro this.1) h2)
theorem astep_safe (hc : RoCall call) {o : Oper} {s s1 : St} (hro : md.lo ≤ s.nx) (h1 : astep P call ops md o s = some s1) : Safe md.lo s.nx s.hp s1.nx s1.hp := by
  unfold astep at h1
  split at h1
  · obtain ⟨q, hq, rfl⟩ := Option.map_eq_some_iff.1 h1
    exact aeff_safe hc hro hq
  · cases h1; exact Safe.refl _ _ _
  · cases h1
theorem aopsD_safe {ft : FuncId → Bool} (hc : RoCall call) : ∀ (l : List (Oper × List Nat)) (j : Nat) (tr : List (Nat × Heap × Heap)) (fs : List (Nat × Option Nat)) (s s' : St), md.lo ≤ s.nx → aopsD P ft call ops md j l tr fs s = some s' → Safe md.lo s.nx s.hp s'.nx s'.hp := by
  intro l
  induction l with
  | nil => intro j tr fs s s' _ h; cases h; exact Safe.refl _ _ _
  | cons p l ih =>
    obtain ⟨o, q⟩ := p
    intro j tr fs s s' hro h
    simp only [aopsD] at h
    cases h1 : astep P call ops md o s with
    | none => rw [h1] at h; cases h
    | some s1 =>
      rw [h1] at h
      have k := astep_safe hc hro h1
      simp only at h
      split at h
      · split at h
        · exact k.trans (ih _ _ _ s1 s' (Nat.le_trans hro k.1) h)
        · cases h
      · split at h
        · exact k.trans (ih _ _ _ s1 s' (Nat.le_trans hro k.1) h)
        · cases h
theorem areg_safe (hc : RoCall call) {d : Bool} {s s' : St} (hro : md.lo ≤ s.nx) (h : areg P kd call ops md d s = some s') : Safe md.lo s.nx s.hp s'.nx s'.hp := by
  unfold areg at h
  split at h
  · split at h
    · exact aopsD_safe hc _ _ _ _ _ _ hro h
    · cases h
  · exact aops_safe hc _ _ _ hro h
theorem vlc_safe {K : Cfg} {f : FuncId} {args : List AVal} {g : Nat → Nat → Heap → Option Res} {r : Res} (h : vlc K f args ro nx hp g = some r) (hg : g ro nx hp = some r → Safe ro nx hp r.nx r.hp) : Safe ro nx hp r.nx r.hp := by
  unfold vlc at h
  split at h
  · split at h
    · cases hx : g 0 0 [] with
      | none => rw [hx] at h; cases h
      | some q => rw [hx] at h; cases h; exact Safe.refl _ _ _
    · cases h
  · exact hg h
theorem aexec_safe (hc : RoCall call) : ∀ (n : Nat) (c : Code) (s : St) (x : AExit) (s' : St), md.lo ≤ s.nx → aexec P kd call md n c s = some (x, s') → Safe md.lo s.nx s.hp s'.nx s'.hp := by
  intro n
  induction n with
  | zero => intro c s x s' _ h; simp [aexec] at h
  | succ n ih =>
    intro c s x s' hro h
    cases c with
    | skip => simp only [aexec] at h; cases h; exact Safe.refl _ _ _
    | exit id => simp only [aexec] at h; cases h; exact Safe.refl _ _ _
    | ret => simp only [aexec] at h; cases h; exact Safe.refl _ _ _
    | region id ops d =>
      simp only [aexec] at h
      obtain ⟨s1, h1, e⟩ := Option.map_eq_some_iff.1 h
      cases e
      exact areg_safe hc hro h1
    | seq a b =>
      simp only [aexec] at h
      cases ha : aexec P kd call md n a s with
      | none => rw [ha] at h; cases h
      | some q =>
        rw [ha] at h
        obtain ⟨y, s1⟩ := q
        have h1 := ih a s y s1 hro ha
        cases y with
        | normal => exact h1.trans (ih b s1 x s' (Nat.le_trans hro h1.1) h)
        | ret => cases h; exact h1
        | exit j => cases h; exact h1
    | cond c a b =>
      simp only [aexec] at h
      cases hv : evv s.tm c <;> rw [hv] at h <;> (try simp only at h) <;> try (cases h; done)
      split at h
      · exact ih a s x s' hro h
      · exact ih b s x s' hro h
    | block id b =>
      simp only [aexec] at h
      cases ha : aexec P kd call md n b s with
      | none => rw [ha] at h; cases h
      | some q =>
        rw [ha] at h
        obtain ⟨y, s1⟩ := q
        have h1 := ih b s y s1 hro ha
        cases y with
        | normal => cases h; exact h1
        | ret => cases h; exact h1
        | exit j => simp only at h; split at h <;> (cases h; exact h1)
    | loop b =>
      simp only [aexec] at h
      cases ha : aexec P kd call md n b s with
      | none => rw [ha] at h; cases h
      | some q =>
        rw [ha] at h
        obtain ⟨y, s1⟩ := q
        have h1 := ih b s y s1 hro ha
        cases y with
        | normal => exact h1.trans (ih (.loop b) s1 x s' (Nat.le_trans hro h1.1) h)
        | ret => cases h; exact h1
        | exit j => cases h; exact h1
    | scope b => simp only [aexec] at h; cases h
    | rangeFunc f ps a b => simp only [aexec] at h; cases h
    | label l => simp only [aexec] at h; cases h
    | goto l => simp only [aexec] at h; cases h
    | refuse w => simp only [aexec] at h; cases h
theorem abody_safe (hc : RoCall call) {n : Nat} {fn : Func} {args : List AVal} {r : Res} (hro : md.lo ≤ nx) (h : abody P kd call n md fn args nx hp = some r) : Safe md.lo nx hp r.nx r.hp := by
  unfold abody at h
  split at h
  · rename_i c hb
    split at h
    · rename_i s he
      obtain ⟨c, _, rfl⟩ := Option.map_eq_some_iff.1 h
      exact aexec_safe hc n _ _ _ _ hro he
    · rename_i s he
      obtain ⟨c, _, rfl⟩ := Option.map_eq_some_iff.1 h
      exact aexec_safe hc n _ _ _ _ hro he
    · cases h
  · cases h
theorem sealed_inv {n : Nat} {x : Option Res} {r : Res} (h : sealed n nx hp x = some r) : ∃ q u, x = some q ∧ fz nx q.hp n q.v = some u ∧ u.idsLt nx = true ∧ r = ⟨u, slOwn nx q, nx, hp⟩ := by
  cases x with
  | none => cases h
  | some q =>
    simp only [sealed] at h
    cases hf : fz nx q.hp n q.v with
    | none => rw [hf] at h; cases h
    | some u =>
      rw [hf] at h
      simp only at h
      split at h
      · rename_i hl
        cases h
        exact ⟨q, u, rfl, hf, hl, rfl⟩
      · cases h
theorem tidied_inv {n : Nat} {x : Option Res} {r : Res} (h : tidied n nx x = some r) : ∃ q u, x = some q ∧ fz nx q.hp n q.v = some u ∧ u.idsLt nx = true ∧ hclean nx q.hp = true ∧ r = ⟨u, slOwn nx q, nx, hlow nx q.hp⟩ := by
  cases x with
  | none => cases h
  | some q =>
    simp only [tidied] at h
    cases hf : fz nx q.hp n q.v with
    | none => rw [hf] at h; cases h
    | some u =>
      rw [hf] at h
      simp only at h
      split at h
      · rename_i hl
        rw [Bool.and_eq_true] at hl
        cases h
        exact ⟨q, u, rfl, hf, hl.1, hl.2, rfl⟩
      · cases h
theorem fin_safe (K : Cfg) {n : Nat} {f : FuncId} {x : Option Res} {r : Res} (hro : ro ≤ nx) (h : fin K n f nx hp x = some r) (hx : ∀ q, x = some q → Safe (low K f ro nx) nx hp q.nx q.hp) : Safe ro nx hp r.nx r.hp := by
  unfold fin at h
  unfold low at hx
  split at h
  · obtain ⟨q, u, _, _, _, rfl⟩ := sealed_inv h
    exact Safe.refl _ _ _
  · rename_i hp'
    rw [if_neg hp'] at hx
    split at h
    · obtain ⟨q, u, hq, _, _, _, rfl⟩ := tidied_inv h
      refine ⟨Nat.le_refl _, fun id hid => ?_⟩
      show hget (hlow nx q.hp) id = _
      rw [hget_hlow, if_pos (by omega)]
      exact (hx q hq).2 id hid
    · exact hx r h
theorem arun_safe (K : Cfg) (he : RoCall K.ext) : ∀ n, RoCall (arun K n) := by
  have hlow : ∀ (f : FuncId) (ro nx : Nat), ro ≤ nx → low K f ro nx ≤ nx := fun f ro nx h => by unfold low; split <;> omega
  intro n
  induction n with
  | zero =>
    intro f args ro nx hp r h hro
    rw [arun.eq_def] at h
    refine vlc_safe h fun h => ?_
    exact fin_safe K hro h fun q hq => he _ _ _ _ _ _ hq (hlow f ro nx hro)
  | succ n ih =>
    intro f args ro nx hp r h hro
    rw [arun] at h
    refine vlc_safe h fun h => fin_safe K hro h fun q hq => ?_
    unfold core at hq
    cases hx : K.ext f args (low K f ro nx) nx hp with
    | some q' => rw [hx] at hq; cases hq; exact he _ _ _ _ _ _ hx (hlow f ro nx hro)
    | none =>
      rw [hx] at hq
      simp only at hq
      split at hq
      · cases hq
      cases hf : K.P.funcs[f]? with
      | none => rw [hf] at hq; cases hq
      | some fn => rw [hf] at hq; exact abody_safe (md := ⟨low K f ro nx, K.mu f⟩) ih (hlow f ro nx hro) hq
end
end Go.Proofs.YtkpfkadjmijmlaaGreatDoor.M
/- The machine is right: what a function comes to, Go comes to. -/
namespace Go.Proofs.YtkpfkadjmijmlaaGreatDoor.M
open Go.RowKit
set_option linter.unusedVariables false
set_option linter.unusedSimpArgs false

/-! ### Numbers of variables -/
theorem idsLts_iff (n : Nat) : ∀ l : List AVal, idsLts n l = true ↔ ∀ a, a ∈ l → a.idsLt n = true := by
  intro l
  induction l with
  | nil => simp [idsLts]
  | cons x r ih => simp [idsLts, ih]
theorem idsLts_flats {n : Nat} {xs : List AVal} : idsLts n xs = true ↔ ∀ u, u ∈ flats xs → u.idsLt n = true := by
  induction xs with
  | nil => simp [idsLts, flats]
  | cons x r ih =>
    have hx : x.idsLt n = true ↔ ∀ u, u ∈ x.flat → u.idsLt n = true := by
      cases x with
      | agg cs => simp only [AVal.idsLt, AVal.flat]; exact idsLts_iff n cs
      | _ => simp [AVal.flat]
    simp only [idsLts, Bool.and_eq_true, flats, List.flatMap_cons, List.mem_append]
    rw [hx, ih]
    constructor
    · rintro ⟨h1, h2⟩ u (hu | hu)
      · exact h1 u hu
      · exact h2 u hu
    · exact fun h => ⟨fun u hu => h u (.inl hu), fun u hu => h u (.inr hu)⟩
section
variable {P : Program} {C : Cx} {B : Nat} {F : Nat → Nat → Prop} {w0 : World} {hp : Heap} {tm : List Cell} {ct : Array Value}
theorem flat_idsLt {n : Nat} {e : AVal} (h : ∀ u, u ∈ e.flat → u.idsLt n = true) : e.idsLt n = true := by
  cases e with
  | agg cs => simp only [AVal.idsLt]; exact (idsLts_iff n cs).2 h
  | _ => exact h _ (by simp [AVal.flat])
theorem idsLt_flat {n : Nat} {e : AVal} (h : e.idsLt n = true) : ∀ u, u ∈ e.flat → u.idsLt n = true := by
  cases e with
  | agg cs => simp only [AVal.idsLt] at h; exact (idsLts_iff n cs).1 h
  | _ => intro u hu; simp [AVal.flat] at hu; subst hu; exact h
theorem RV.idsLt {v : AVal} {cv : Value} (h : RV C v cv) : v.idsLt C.nx = true := by
  induction h with
  | int k n => rfl
  | bool b => rfl
  | str s => rfl
  | agg cs vs hl h1 h ih =>
    simp only [AVal.idsLt]
    refine (idsLts_iff _ _).2 fun a ha => ?_
    obtain ⟨i, hi⟩ := List.getElem?_of_mem ha
    have hlt := (List.getElem?_eq_some_iff.1 hi).1
    exact ih i a _ hi (List.getElem?_eq_getElem (by omega))
  | lst xs A c sz cu hc hz hs h1 hm h ih =>
    simp only [AVal.idsLt]
    refine idsLts_flats.2 fun u hu => ?_
    obtain ⟨i, hi⟩ := List.getElem?_of_mem hu
    exact ih i u hi
  | tup cs vs hl h ih =>
    simp only [AVal.idsLt]
    refine (idsLts_iff _ _).2 fun a ha => ?_
    obtain ⟨i, hi⟩ := List.getElem?_of_mem ha
    have hlt := (List.getElem?_eq_some_iff.1 hi).1
    exact ih i a _ hi (List.getElem?_eq_getElem (by omega))
  | ptr id off hid => simpa [AVal.idsLt] using hid
  | pel e off b o cu h1 hm h ih =>
    simp only [AVal.idsLt]
    refine flat_idsLt fun u hu => ?_
    obtain ⟨i, hi⟩ := List.getElem?_of_mem hu
    exact ih i u hi
  | map id hid => simpa [AVal.idsLt] using hid
  | sl id off len sz c ag hid hc hx => simpa [AVal.idsLt] using hid
  | clo f fs cs fv cv hf hl h h' ih ih' =>
    simp only [AVal.idsLt, Bool.and_eq_true]
    refine ⟨(idsLts_iff _ _).2 fun a ha => ?_, (idsLts_iff _ _).2 fun a ha => ?_⟩
    · obtain ⟨i, hi⟩ := List.getElem?_of_mem ha
      have hlt := (List.getElem?_eq_some_iff.1 hi).1
      exact ih i a _ hi (List.getElem?_eq_getElem (by omega))
    · obtain ⟨i, hi⟩ := List.getElem?_of_mem ha
      have hlt := (List.getElem?_eq_some_iff.1 hi).1
      exact ih' i a _ hi (List.getElem?_eq_getElem (by omega))
  | nilp => rfl
  | nilf => rfl
  | nilm => rfl
  | nils => rfl
  | bad v => rfl
def Cx.low (D : Cx) (n : Nat) : Cx := { D with nx := n }
theorem RV.low {D : Cx} {n : Nat} {v : AVal} {cv : Value} (h : RV D v cv) (hi : v.idsLt n = true) : RV (D.low n) v cv := by
  induction h with
  | int k n => exact .int k n
  | bool b => exact .bool b
  | str s => exact .str s
  | agg cs vs hl h1 h ih =>
    simp only [AVal.idsLt] at hi
    exact .agg cs vs hl h1 fun i a v ha hv => ih i a v ha hv ((idsLts_iff _ _).1 hi a (List.mem_of_getElem? ha))
  | lst xs A c sz cu hc hz hs h1 hm h ih =>
    simp only [AVal.idsLt] at hi
    exact .lst xs A c sz cu hc hz hs h1 hm fun i u hu => ih i u hu (idsLts_flats.1 hi u (List.mem_of_getElem? hu))
  | tup cs vs hl h ih =>
    simp only [AVal.idsLt] at hi
    exact .tup cs vs hl fun i a v ha hv => ih i a v ha hv ((idsLts_iff _ _).1 hi a (List.mem_of_getElem? ha))
  | ptr id off hid => exact .ptr (C := D.low n) id off (show id < n by simpa [AVal.idsLt] using hi)
  | pel e off b o cu h1 hm h ih =>
    simp only [AVal.idsLt] at hi
    exact .pel e off b o cu h1 hm fun i u hu => ih i u hu (idsLt_flat hi u (List.mem_of_getElem? hu))
  | map id hid => exact .map (C := D.low n) id (show id < n by simpa [AVal.idsLt] using hi)
  | sl id off len sz c ag hid hc hx => exact .sl (C := D.low n) id off len sz c ag (show id < n by simpa [AVal.idsLt] using hi) hc hx
  | clo f fs cs fv cv hf hl h h' ih ih' =>
    simp only [AVal.idsLt, Bool.and_eq_true] at hi
    exact .clo f fs cs fv cv hf hl (fun i a v ha hv => ih i a v ha hv ((idsLts_iff _ _).1 hi.1 a (List.mem_of_getElem? ha))) (fun i a v ha hv => ih' i a v ha hv ((idsLts_iff _ _).1 hi.2 a (List.mem_of_getElem? ha)))
  | nilp => exact .nilp
  | nilf => exact .nilf
  | nilm => exact .nilm
  | nils => exact .nils
  | bad v => exact .bad v
theorem mapO_spec {f : AVal → Option AVal} : ∀ (l : List AVal) {us : List AVal}, mapO f l = some us → us.length = l.length ∧ ∀ (i : Nat) u, us[i]? = some u → ∃ v, l[i]? = some v ∧ f v = some u := by
  intro l
  induction l with
  | nil => intro us h; cases h; exact ⟨rfl, fun i u hi => by simp at hi⟩
  | cons v l ih =>
    intro us h
    simp only [mapO] at h
    cases h1 : f v with
    | none => rw [h1] at h; cases h
    | some u =>
      cases h2 : mapO f l with
      | none => rw [h1, h2] at h; cases h
      | some r =>
        rw [h1, h2] at h
        cases h
        obtain ⟨q1, q2⟩ := ih h2
        refine ⟨by simp [q1], fun i x hi => ?_⟩
        cases i with
        | zero => simp at hi; subst hi; exact ⟨v, rfl, h1⟩
        | succ i => simp at hi; obtain ⟨w, h3, h4⟩ := q2 i x hi; exact ⟨w, by simpa using h3, h4⟩
theorem fz_one {lo : Nat} {hp : Heap} {n : Nat} {v u : AVal} (h : fz lo hp n v = some u) (h1 : v.one = true) : u.one = true := by
  have key : v.idsLt lo = true ∨ ∃ m, fzv lo hp (fz lo hp m) v = some u := by
    cases n with
    | zero => simp only [fz] at h; split at h; (· exact .inl (by assumption)); cases h
    | succ n => simp only [fz] at h; split at h; (· exact .inl (by assumption)); exact .inr ⟨n, h⟩
  by_cases hl : v.idsLt lo = true
  · have : fz lo hp n v = some v := by cases n <;> (simp only [fz]; rw [if_pos hl])
    rw [this] at h; cases h; exact h1
  · rcases key with k | ⟨m, k⟩
    · exact absurd k hl
    · cases v <;> (try simp only [fzv] at k) <;> (try (cases k; done)) <;> (try (simp [AVal.one] at h1; done))
      split at k
      · split at k
        · obtain ⟨us, _, rfl⟩ := Option.map_eq_some_iff.1 k; rfl
        · cases k
      · cases k
theorem chunks_spec (sz : Nat) : ∀ (k : Nat) (us : List AVal), us.length = k * sz → (chunks sz k us).length = k ∧ (∀ x, x ∈ chunks sz k us → x.flat.length = sz) ∧ flats (chunks sz k us) = us := by
  intro k
  induction k with
  | zero => intro us h; simp at h; subst h; exact ⟨rfl, fun x hx => by simp [chunks] at hx, rfl⟩
  | succ k ih =>
    intro us h
    rw [Nat.add_mul] at h
    obtain ⟨h1, h2, h3⟩ := ih (us.drop sz) (by simp; omega)
    refine ⟨by simp [chunks, h1], fun x hx => ?_, ?_⟩
    · simp only [chunks, List.mem_cons] at hx
      rcases hx with rfl | hx
      · simp [AVal.flat]; omega
      · exact h2 x hx
    · simp only [chunks]
      show (AVal.agg (us.take sz)).flat ++ flats (chunks sz k (us.drop sz)) = us
      rw [h3]
      exact List.take_append_drop sz us
theorem chop_spec {ag : Bool} {sz n : Nat} {us : List AVal} (hl : us.length = n * sz) (h : ag = true ∨ sz = 1) (h1 : ∀ u, u ∈ us → u.one = true) : (chop ag sz n us).length = n ∧ (∀ x, x ∈ chop ag sz n us → x.flat.length = sz) ∧ flats (chop ag sz n us) = us := by
  unfold chop
  cases ag with
  | true => exact chunks_spec sz n us hl
  | false =>
    rcases h with h | rfl
    · cases h
    · have hf : ∀ u : AVal, u.one = true → u.flat = [u] := fun u hu => by cases u <;> first | rfl | (simp [AVal.one] at hu)
      refine ⟨by simpa using hl, fun x hx => by rw [hf x (h1 x hx)]; rfl, ?_⟩
      show flats us = us
      clear hl
      induction us with
      | nil => rfl
      | cons u r ih =>
        show u.flat ++ flats r = _
        rw [ih fun x hx => h1 x (List.mem_cons_of_mem _ hx), hf u (h1 u (List.mem_cons_self ..))]
        rfl
/-- The arrays from n on are frozen. -/
def Cx.ice (D : Cx) (n : Nat) (hp : Heap) : Cx := { ι := D.ι, I := fun b o => D.I b o ∨ ∃ id cs, n ≤ id ∧ hget hp id = some (.cells cs) ∧ b = D.ι id ∧ o < cs.length, nx := n, w := D.w }
theorem ice_le (D : Cx) (n : Nat) (hp : Heap) : (D.low n).Le (D.ice n hp) := ⟨Nat.le_refl _, fun _ _ => rfl, fun b o h => Or.inl h, fun _ _ _ => rfl, fun _ _ u hu => ⟨u, hu⟩⟩
theorem RV.ice {D : Cx} (h : HOk D B F w0 hp) (n : Nat) : ∀ (m : Nat) (v u : AVal) (cv : Value), RV D v cv → fz n hp m v = some u → RV (D.ice n hp) u cv := by
  have base : ∀ v cv, RV D v cv → v.idsLt n = true → RV (D.ice n hp) v cv := fun v cv hv hi => (hv.low hi).mono (ice_le D n hp)
  intro m
  induction m with
  | zero =>
    intro v u cv hv hf
    simp only [fz] at hf
    split at hf
    · rename_i hi; cases hf; exact base v cv hv hi
    · cases hf
  | succ m ih =>
    intro v u cv hv hf
    simp only [fz] at hf
    split at hf
    · rename_i hi; cases hf; exact base v cv hv hi
    · rename_i hnl
      clear hnl
      cases v <;> (try simp only [fzv] at hf) <;> (try (cases hf; done))
      case agg cs =>
        obtain ⟨us, hus, rfl⟩ := Option.map_eq_some_iff.1 hf
        obtain ⟨vs, rfl, hvl, h1, hr⟩ := hv.agg_inv
        obtain ⟨q1, q2⟩ := mapO_spec cs hus
        refine .agg us vs (by omega) (fun a ha => ?_) (fun i a x ha hx => ?_)
        · obtain ⟨i, hi⟩ := List.getElem?_of_mem ha
          obtain ⟨w, hw, hfw⟩ := q2 i a hi
          exact fz_one hfw (h1 w (List.mem_of_getElem? hw))
        · obtain ⟨w, hw, hfw⟩ := q2 i a ha
          exact ih w a x (hr i w x hw hx) hfw
      case tup cs =>
        obtain ⟨us, hus, rfl⟩ := Option.map_eq_some_iff.1 hf
        obtain ⟨vs, rfl, hvl, hr⟩ := hv.tup_inv
        obtain ⟨q1, q2⟩ := mapO_spec cs hus
        refine .tup us vs (by omega) (fun i a x ha hx => ?_)
        obtain ⟨w, hw, hfw⟩ := q2 i a ha
        exact ih w a x (hr i w x hw hx) hfw
      case sl id off len sz ag =>
        split at hf
        rotate_left
        · cases hf
        rename_i cs hg
        split at hf
        rotate_left
        · cases hf
        rename_i hc
        obtain ⟨hlo, hsz, hag, hle⟩ := hc
        obtain ⟨us, hus, rfl⟩ := Option.map_eq_some_iff.1 hf
        obtain ⟨c, rfl, hid, hcl, _⟩ := hv.sl_inv
        obtain ⟨vs, ty, hb, hvs, hcs⟩ := h.blk id cs hg
        obtain ⟨q1, q2⟩ := mapO_spec _ hus
        have hcell : ∀ i, D.w.cell? ⟨D.ι id, i, none⟩ = vs[i]? := fun i => by simp [World.cell?, hb]
        have q1' : us.length = len * sz := by rw [q1]; simp; omega
        have at_ : ∀ (i : Nat) u, us[i]? = some u → u.one = true ∧ ∃ v, vs[off + i]? = some v ∧ RV (D.ice n hp) u v := by
          intro i u hu
          obtain ⟨w, hw, hfw⟩ := q2 i u hu
          rw [List.getElem?_map, List.getElem?_take] at hw
          split at hw
          · rw [List.getElem?_drop] at hw
            obtain ⟨c', hc', rfl⟩ := Option.map_eq_some_iff.1 hw
            obtain ⟨r1, v, r2, r3⟩ := hcs _ c' hc'
            exact ⟨fz_one hfw r1, v, r2, ih _ u v r3 hfw⟩
          · cases hw
        have hone : ∀ u, u ∈ us → u.one = true := fun u hu => by
          obtain ⟨i, hi⟩ := List.getElem?_of_mem hu
          exact (at_ i u hi).1
        obtain ⟨c1, c2, c3⟩ := chop_spec q1' hag hone
        suffices hsuf : RV (D.ice n hp) (.lst (chop ag sz len us)) (.slice (some ⟨D.ι id, off, none⟩) (chop ag sz len us).length c) by rwa [c1] at hsuf
        refine RV.lst_mk (by rw [c1]; exact hcl) (fun _ => hsz) c2 (by rw [c3]; exact hone) ((vs.toList.drop off).take (len * sz)) (by rw [c3, q1']; simp; omega) (fun i v hi => ⟨D.ι id, off, rfl, (show (D.ice n hp).I (D.ι id) (off + i) from Or.inr ⟨id, cs, hlo, hg, rfl, ?_⟩), ?_⟩) (fun i u v hu hi => ?_)
        · have := (List.getElem?_eq_some_iff.1 hi).1
          simp at this
          omega
        · rw [List.getElem?_take] at hi
          split at hi
          · rw [List.getElem?_drop, Array.getElem?_toList] at hi
            exact (hcell _).trans hi
          · cases hi
        · rw [c3] at hu
          obtain ⟨_, v', r2, r3⟩ := at_ i u hu
          rw [List.getElem?_take] at hi
          split at hi
          · rw [List.getElem?_drop, Array.getElem?_toList, r2] at hi
            cases hi; exact r3
          · cases hi
theorem Left.fewer {q : Res} {v : Value} {w' : World} (hl : Left C B F w0 q v w') {hp' : Heap} (hs : ∀ i b, hget hp' i = some b → hget q.hp i = some b) : Left C B F w0 ⟨q.v, q.own, q.nx, hp'⟩ v w' := by
  obtain ⟨D, rfl, le, hx, hW, hr, ho⟩ := hl
  refine ⟨D, rfl, le, hx, hW.fewer hs, hr, fun hown => ?_⟩
  obtain ⟨o1, o2⟩ := ho hown
  refine ⟨⟨o1.form, fun b o t => ?_⟩, fun k v' cv' hk => o2 k v' cv' ?_⟩
  · obtain ⟨a1, a2, a3, a4, a5, a6⟩ := o1.cells b o t
    refine ⟨a1, a2, a3, fun id hid => a4 id ?_, a5, a6⟩
    obtain ⟨b', hb'⟩ := Option.isSome_iff_exists.1 hid
    rw [hs id b' hb']; rfl
  · obtain ⟨i, t⟩ := k
    cases i with
    | zero => exact hk
    | succ id => obtain ⟨cs, vs, ty, h1, h2⟩ := hk; exact ⟨cs, vs, ty, hs id _ h1, h2⟩
/-- What is left of a call, when its arrays are frozen and its variables forgotten. -/
theorem Left.close {q : Res} {v : Value} {w' : World} (hl : Left C B F w0 q v w') {m : Nat} {u : AVal} (hf : fz C.nx q.hp m q.v = some u) (hclean : ∀ id cs c, id < C.nx → hget q.hp id = some (.cells cs) → c ∈ cs → c.1.idsLt C.nx = true) (hcleanM : ∀ id es p, id < C.nx → hget q.hp id = some (.map es) → p ∈ es → p.1.idsLt C.nx = true ∧ p.2.idsLt C.nx = true) :
    Left C B F w0 ⟨u, slOwn C.nx q, C.nx, hlow C.nx q.hp⟩ v w' := by
  obtain ⟨D, rfl, le, hx, hW, hr, ho⟩ := hl
  have hlo : ∀ i b, hget (hlow C.nx q.hp) i = some b → i < C.nx ∧ hget q.hp i = some b := fun i b hb => by
    rw [hget_hlow] at hb
    split at hb
    · rename_i h; exact ⟨h, hb⟩
    · cases hb
  have hlo' : ∀ i, (hget (hlow C.nx q.hp) i).isSome = true → i < C.nx ∧ (hget q.hp i).isSome = true := fun i hi => by
    obtain ⟨b, hb⟩ := Option.isSome_iff_exists.1 hi
    obtain ⟨h1, h2⟩ := hlo i b hb
    exact ⟨h1, by rw [h2]; rfl⟩
  have up : ∀ {v : AVal} {cv : Value}, RV D v cv → v.idsLt C.nx = true → RV (D.ice C.nx q.hp) v cv := fun hv hi => (hv.low hi).mono (ice_le D C.nx q.hp)
  have own : ∀ k v cv, Owned (D.ice C.nx q.hp) (hlow C.nx q.hp) [] #[] k v cv → Owned D q.hp [] #[] k v cv := by
    intro k v cv hk
    obtain ⟨i, t⟩ := k
    cases i with
    | zero => simp [Owned] at hk
    | succ id =>
      obtain ⟨cs, vs, ty, h1, h2, h3, h4⟩ := hk
      exact ⟨cs, vs, ty, (hlo id _ h1).2, h2, h3, h4⟩
  have ok : ∀ {v : AVal} {cv : Value}, OwnOk D B F q.hp v cv → OwnOk (D.ice C.nx q.hp) B F (hlow C.nx q.hp) v cv := fun h1 => ⟨h1.form, fun b o t => by
    obtain ⟨a1, a2, a3, a4, a5, a6⟩ := h1.cells b o t
    refine ⟨a1, fun hI => ?_, a3, fun id hid => a4 id (hlo' id hid).2, a5, a6⟩
    rcases hI with hI | ⟨id, cs, _, hg, e, _⟩
    · exact a2 hI
    · exact a4 id (by rw [hg]; rfl) e⟩
  refine ⟨D.ice C.nx q.hp, rfl, ⟨Nat.le_refl _, le.map, fun b o h => .inl (le.imm b o h), le.cell, le.ex⟩, rfl, ⟨⟨hW.heap.below, hW.heap.base, fun id hid => (hlo' id hid).1, fun id cs hid => ?_, fun i j a b => hW.heap.inj i j (hlo' i a).2 (hlo' j b).2, fun i a => ?_, fun b o hI => ?_, fun b o hF => ?_, fun id es hg => (by
    obtain ⟨hlt, hg'⟩ := hlo id _ hg
    obtain ⟨ents, clk, h1, h2, hst, h3⟩ := hW.heap.mapb id es hg'
    refine ⟨ents, clk, h1, h2, hst, fun i p hp => ?_⟩
    obtain ⟨x, q1, q2, q3⟩ := h3 i p hp
    obtain ⟨m1, m2⟩ := hcleanM id es p hlt hg' (List.mem_of_getElem? hp)
    exact ⟨x, q1, up q2 m1, up q3 m2⟩)⟩, rfl, fun t c ht => by simp at ht, fun k v cv hk => ok (hW.own k v cv (own k v cv hk)), fun k1 k2 v1 c1 v2 c2 h1 h2 => hW.sep k1 k2 v1 c1 v2 c2 (own _ _ _ h1) (own _ _ _ h2)⟩, hr.ice hW.heap C.nx m _ _ _ hf, fun hown => ?_⟩
  · obtain ⟨hlt, hg⟩ := hlo id _ hid
    obtain ⟨vs, ty, h1, h2, h3⟩ := hW.heap.blk id cs hg
    refine ⟨vs, ty, h1, h2, fun i c hc => ?_⟩
    obtain ⟨r1, v, r2, r3⟩ := h3 i c hc
    exact ⟨r1, v, r2, up r3 (hclean id cs c hlt hg (List.mem_of_getElem? hc))⟩
  · obtain ⟨hlt, hs⟩ := hlo' i a
    obtain ⟨o1, o2, o3⟩ := hW.heap.out i hs
    refine ⟨o1, o2, fun o => ⟨fun hI => ?_, (o3 o).2⟩⟩
    rcases hI with hI | ⟨id, cs, hle, hg, e, _⟩
    · exact (o3 o).1 hI
    · have := hW.heap.inj i id hs (by rw [hg]; rfl) e
      omega
  · rcases hI with hI | ⟨id, cs, _, hg, rfl, hlt⟩
    · exact hW.heap.imm b o hI
    · obtain ⟨vs, ty, h1, h2, _⟩ := hW.heap.blk id cs hg
      exact ⟨vs[o]'(by omega), by
        show D.w.cell? _ = _
        simp [World.cell?, h1, show o < vs.size by omega]⟩
  · obtain ⟨f1, f2, f3⟩ := hW.heap.far b o hF
    refine ⟨f1, f2, fun hI => ?_⟩
    rcases hI with hI | ⟨id, cs, _, hg, rfl, _⟩
    · exact f3 hI
    · exact ((hW.heap.out id (by rw [hg]; rfl)).2.2 o).2 hF
  · simp only [slOwn, Bool.and_eq_true] at hown
    have e : u = q.v := by
      have : fz C.nx q.hp m q.v = some q.v := by cases m <;> (simp only [fz]; rw [if_pos hown.2])
      rw [this] at hf; cases hf; rfl
    subst e
    obtain ⟨o1, o2⟩ := ho hown.1
    exact ⟨ok o1, fun k v' cv' hk => o2 k v' cv' (own k v' cv' hk)⟩
/-- What a call that changed nothing leaves. -/
theorem Left.shut (h : WRel C B F w0 hp [] #[]) {q : Res} {v : Value} {w' : World} (hl : Left C B F w0 q v w') {m : Nat} {u : AVal} (hf : fz C.nx q.hp m q.v = some u) (hsame : ∀ id, id < C.nx → hget q.hp id = hget hp id) : Left C B F w0 ⟨u, slOwn C.nx q, C.nx, hp⟩ v w' := by
  have hc := hl.close hf (fun id cs c hid hg hm => by
    rw [hsame id hid] at hg
    obtain ⟨vs, ty, _, _, h3⟩ := h.heap.blk id cs hg
    obtain ⟨i, hi⟩ := List.getElem?_of_mem hm
    obtain ⟨_, v, _, hr⟩ := h3 i c hi
    exact hr.idsLt) (fun id es p hid hg hm => by
    rw [hsame id hid] at hg
    obtain ⟨ents, clk, _, _, _, h3⟩ := h.heap.mapb id es hg
    obtain ⟨i, hi⟩ := List.getElem?_of_mem hm
    obtain ⟨x, _, q2, q3⟩ := h3 i p hi
    exact ⟨q2.idsLt, q3.idsLt⟩)
  refine hc.fewer fun i b hb => ?_
  show hget (hlow C.nx q.hp) i = some b
  have hlt : i < C.nx := h.heap.ids i (by rw [hb]; rfl)
  rw [hget_hlow, if_pos hlt, hsame i hlt]
  exact hb

/-! ### Entering and leaving -/
theorem WRel.enter (h : WRel C B F w0 hp [] #[]) (args : List AVal) (vs : List Value) (hl : vs.length = args.length) (hr : ∀ (i : Nat) (a : AVal) (v : Value), args[i]? = some a → vs[i]? = some v → RV C a v) (n : Nat) :
    WRel C B F w0 hp (args.map (·, false) ++ List.replicate n (.tup [], false)) (vs.toArray ++ Array.replicate n undef) := by
  have get : ∀ (t : Nat) c, (args.map (·, false) ++ List.replicate n ((.tup [] : AVal), false))[t]? = some c → c.2 = false ∧ ∃ v, (vs.toArray ++ Array.replicate n undef)[t]? = some v ∧ RV C c.1 v := by
    intro t c ht
    rcases Nat.lt_or_ge t args.length with h1 | h1
    · rw [List.getElem?_append_left (by simpa using h1), List.getElem?_map] at ht
      obtain ⟨a, ha, rfl⟩ := Option.map_eq_some_iff.1 ht
      refine ⟨rfl, vs[t]'(by omega), ?_, hr t a _ ha (List.getElem?_eq_getElem (by omega))⟩
      rw [Array.getElem?_append_left (by simp; omega)]
      simp
    · rw [List.getElem?_append_right (by simpa using h1), List.length_map, List.getElem?_replicate] at ht
      split at ht
      · rename_i h2
        cases ht
        refine ⟨rfl, undef, ?_, undef_rv⟩
        have h3 : (vs.toArray ++ Array.replicate n undef).size = args.length + n := by simp [hl]
        rw [Array.getElem?_append_right (by simp; omega)]
        simp only [List.size_toArray, Array.getElem?_replicate]
        rw [if_pos (by omega)]
      · cases ht
  refine h.rekey (fun _ => rfl) h.heap.blk (fun _ _ h => h) (by simp [hl]) (fun t c ht => (get t c ht).2) id (fun k v cv ho => ?_) (fun k k' v cv v' cv' _ _ e => e)
  obtain ⟨i, t⟩ := k
  cases i with
  | zero => have := (get t _ ho.1).1; simp at this
  | succ id => exact ho
theorem WRel.bare (h : WRel C B F w0 hp tm ct) : WRel C B F w0 hp [] #[] := by
  refine h.rekey (fun _ => rfl) h.heap.blk (fun _ _ h => h) rfl (fun t c ht => by simp at ht) id (fun k v cv ho => ?_) (fun k k' v cv v' cv' _ _ e => e)
  obtain ⟨i, t⟩ := k
  cases i with
  | zero => simp [Owned] at ho
  | succ id => exact ho
/-- What is read, whoever takes what it owns. -/
theorem load_val (h : HOk C B F w0 hp) (ops : Array Oper) (ro : Md) (dst : Option Tmp) (t : TypeId) {a : AVal} {u : Value} (hu : RV C a u) {q : Out} (hq : aload P ops ro dst t a C.nx hp = some q) : ∃ v, (Instr.loadAt t u).run P C.w = .ok v C.w ∧ RV C q.v v ∧ (dst = none → q.own = false) := by
  cases a <;> (try simp only [aload] at hq) <;> try (cases hq; done)
  · rename_i id off
    obtain ⟨rfl, hid⟩ := hu.ptr_inv
    cases hg : hget hp id with
    | none => rw [hg] at hq; cases hq
    | some blk =>
      rw [hg] at hq
      cases blk <;> (try simp only at hq) <;> try (cases hq; done)
      rename_i cs
      obtain ⟨vs, ty, hb, hsz, hcs⟩ := h.blk id cs hg
      have hcell : ∀ i, C.w.cell? ⟨C.ι id, i, none⟩ = vs[i]? := fun i => by simp [World.cell?, hb]
      cases hagg : isAggT P t with
      | none => rw [hagg] at hq; cases hq
      | some b =>
        rw [hagg] at hq
        obtain ⟨ti, hti⟩ := info_of_agg hagg
        cases b with
        | true =>
          simp only at hq
          split at hq
          · rename_i hle
            injection hq with hq; subst hq
            have hlv : off + sizeT P t ≤ vs.toList.length := by rw [Array.length_toList]; omega
            have hrun := run_loadCells_list (P := P) C.w ⟨C.ι id, off, none⟩ ((vs.toList.drop off).take (sizeT P t)) (fun j v hj => by
              rw [List.getElem?_take] at hj
              split at hj
              · rw [List.getElem?_drop, Array.getElem?_toList] at hj
                rw [add_at, hcell]; exact hj
              · cases hj)
            have hlen : ((vs.toList.drop off).take (sizeT P t)).length = sizeT P t := by simp; omega
            rw [hlen] at hrun
            refine ⟨.agg ((vs.toList.drop off).take (sizeT P t)).toArray, by simp [Instr.loadAt, Instr.sureAddr, loadVar, run_isAggT hagg, run_sizeT hti, hrun], ?_, fun _ => rfl⟩
            refine .agg _ _ (by simp; omega) (fun x hx => ?_) (fun i x v hx hv => ?_)
            · obtain ⟨c, hc, rfl⟩ := List.mem_map.1 hx
              obtain ⟨j, hj⟩ := List.getElem?_of_mem (List.mem_of_mem_drop (List.mem_of_mem_take hc))
              exact (hcs j c hj).1
            · rw [List.getElem?_map, List.getElem?_take] at hx
              rw [List.getElem?_take] at hv
              split at hx
              · rename_i hi
                rw [if_pos hi] at hv
                rw [List.getElem?_drop] at hx hv
                obtain ⟨c, hc, rfl⟩ := Option.map_eq_some_iff.1 hx
                obtain ⟨_, v', h2, h3⟩ := hcs _ c hc
                rw [Array.getElem?_toList, h2] at hv
                injection hv with hv; subst hv; exact h3
              · cases hx
          · cases hq
        | false =>
          simp only at hq
          cases hc : cs[off]? with
          | none => rw [hc] at hq; cases hq
          | some c =>
            rw [hc] at hq
            obtain ⟨x, f⟩ := c
            obtain ⟨_, v, hv, hr⟩ := hcs off _ hc
            have hrun : (Instr.loadAt t (.pointer (some ⟨C.ι id, off, none⟩))).run P C.w = .ok v C.w := by
              simp [Instr.loadAt, Instr.sureAddr, loadVar, run_isAggT hagg, load, Sem.run, hcell, hv]
            refine ⟨v, hrun, ?_⟩
            cases f with
            | false => simp only at hq; injection hq with hq; subst hq; exact ⟨hr, fun _ => rfl⟩
            | true =>
              simp only at hq
              split at hq
              · rename_i hf
                split at hq
                · injection hq with hq; subst hq
                  exact ⟨hr, fun hd => by subst hd; simp [feeds] at hf⟩
                · split at hq
                  · injection hq with hq; subst hq
                    exact ⟨hr, fun hd => by subst hd; simp [feeds] at hf⟩
                  · injection hq with hq; subst hq; exact ⟨hr, fun _ => rfl⟩
              · injection hq with hq; subst hq; exact ⟨hr, fun _ => rfl⟩
  · rename_i e off
    obtain ⟨r, hr, rfl⟩ := val_some hq
    obtain ⟨z, hz, hrr⟩ := sound_load_pel (P := P) t hu hr
    exact ⟨z, hz, hrr, fun _ => rfl⟩
def resOf (ct : Array Value) : ResultVar → Sem Value
  | .tmp t => pure (ct.getD t undef)
  | .cell a t => do loadVar t (← asAddr (ct.getD a undef))
theorem sound_res (h : WRel C B F w0 hp tm ct) (r : ResultVar) {c : Cell} (hr : ares P ⟨tm, C.nx, hp⟩ r = some c) :
    ∃ u, (resOf ct r).run P C.w = .ok u C.w ∧ RV C c.1 u ∧ (c.2 = true → ∃ t, Owned C hp tm ct (0, t) c.1 u) := by
  have hgd : ∀ (t : Nat) c, tm[t]? = some c → ∃ u, ct[t]? = some u ∧ ct.getD t undef = u ∧ RV C c.1 u := by
    intro t c ht
    obtain ⟨u, hu, hrv⟩ := h.tmp t c ht
    have hlt := (Array.getElem?_eq_some_iff.1 hu).1
    have he := (Array.getElem?_eq_some_iff.1 hu).2
    exact ⟨u, hu, by simp [Array.getD, hlt, he], hrv⟩
  cases r with
  | tmp t =>
    have ht : tm[t]? = some c := hr
    obtain ⟨u, hu, hg, hrv⟩ := hgd t c ht
    refine ⟨u, by simp only [resOf, hg]; rfl, hrv, fun hc => ⟨t, ?_, hu⟩⟩
    rw [ht]
    obtain ⟨v, f⟩ := c
    simp only at hc
    rw [hc]
  | cell a t =>
    simp only [ares] at hr
    cases ha : tm[a]? with
    | none => rw [ha] at hr; cases hr
    | some p =>
      rw [ha] at hr
      obtain ⟨pv, pf⟩ := p
      simp only at hr
      obtain ⟨q, hq, rfl⟩ := Option.map_eq_some_iff.1 hr
      obtain ⟨u, hu, hg, hrv⟩ := hgd a _ ha
      obtain ⟨v, hrun, hrr, hno⟩ := load_val (P := P) h.heap #[] ⟨C.nx, []⟩ none t hrv hq
      have hptr : ∃ ad, u = .pointer (some ad) := by
        cases pv <;> (try simp only [aload] at hq) <;> try (cases hq; done)
        · exact ⟨_, hrv.ptr_inv.1⟩
        · obtain ⟨b, o, e, _⟩ := hrv.pel_inv; exact ⟨_, e⟩
      obtain ⟨ad, rfl⟩ := hptr
      have hrun2 : (loadVar t ad).run P C.w = .ok v C.w := by simpa [Instr.loadAt, Instr.sureAddr] using hrun
      refine ⟨v, by simp only [resOf, hg]; simp [asAddr, hrun2], hrr, fun hc => ?_⟩
      simp only at hc
      rw [hno rfl] at hc; cases hc
theorem run_reslist (h : WRel C B F w0 hp tm ct) : ∀ (l : List ResultVar) {vs : List AVal}, areslist P ⟨tm, C.nx, hp⟩ l = some vs → ∃ us, (l.mapM (resOf ct)).run P C.w = .ok us C.w ∧ us.length = vs.length ∧ ∀ (i : Nat) (a : AVal) (u : Value), vs[i]? = some a → us[i]? = some u → RV C a u := by
  intro l
  induction l with
  | nil => intro vs hv; simp only [areslist] at hv; cases hv; exact ⟨[], rfl, rfl, fun i a u hi => by simp at hi⟩
  | cons r l ih =>
    intro vs hv
    simp only [areslist] at hv
    cases h1 : ares P ⟨tm, C.nx, hp⟩ r with
    | none => rw [h1] at hv; cases hv
    | some c =>
      cases h2 : areslist P ⟨tm, C.nx, hp⟩ l with
      | none => rw [h1, h2] at hv; cases hv
      | some ws =>
        rw [h1, h2] at hv
        obtain ⟨cv, cf⟩ := c
        cases hv
        obtain ⟨u, hu, hr, _⟩ := sound_res h r h1
        obtain ⟨us, hus, hl, hrr⟩ := ih h2
        refine ⟨u :: us, by simp [List.mapM_cons, hu, hus], by simp [hl], fun i a x ha hx => ?_⟩
        cases i with
        | zero => simp at ha hx; subst ha hx; exact hr
        | succ i => simp at ha hx; exact hrr i a x ha hx
theorem areslist_len : ∀ (l : List ResultVar) {s : St} {vs : List AVal}, areslist P s l = some vs → vs.length = l.length := by
  intro l
  induction l with
  | nil => intro s vs h; simp only [areslist] at h; cases h; rfl
  | cons r l ih =>
    intro s vs h
    simp only [areslist] at h
    split at h
    · rename_i h1 h2; cases h; simp [ih h2]
    · cases h
theorem sound_results (h : WRel C B F w0 hp tm ct) (fn : Func) {c : Cell} (hr : aresults P fn.results.toList ⟨tm, C.nx, hp⟩ = some c) :
    ∃ u, (results fn ct).run P C.w = .ok u C.w ∧ RV C c.1 u ∧ (c.2 = true → ∃ t, Owned C hp tm ct (0, t) c.1 u) := by
  have hres : results fn ct = (do let vs ← fn.results.mapM (resOf ct); pure (if h : vs.size = 1 then vs[0] else .tuple vs)) := by
    unfold results
    congr 1
  have hm : fn.results.mapM (resOf ct) = List.toArray <$> fn.results.toList.mapM (resOf ct) := Array.mapM_eq_mapM_toList
  rw [hres, hm]
  generalize fn.results.toList = l at hr ⊢
  unfold aresults at hr
  split at hr
  · rename_i r
    obtain ⟨u, hu, hrv, ho⟩ := sound_res h r hr
    exact ⟨u, by simp [List.mapM_cons, hu], hrv, ho⟩
  · rename_i hne
    obtain ⟨vs, hvs, rfl⟩ := Option.map_eq_some_iff.1 hr
    obtain ⟨us, hus, hl, hrr⟩ := run_reslist h _ hvs
    have hlen := areslist_len _ hvs
    have h1 : us.length ≠ 1 := by
      intro e
      rw [hl, hlen] at e
      obtain ⟨r, hr1⟩ := List.length_eq_one_iff.1 e
      exact hne r hr1
    refine ⟨.tuple us.toArray, by simp [hus, h1], RV.tup vs us hl hrr, fun hc => by cases hc⟩
theorem abody_good {call : CallF} {kd : Knd} (hcall : GoodCall P call) (hdr : Draws P kd call) {n nx : Nat} {ro : Md} {fn : Func} {f : FuncId} {args : List AVal} {r : Res} (hf : P.funcs[f]? = some fn) (hname : fn.name ≠ "runtime.NumGoroutine")
    (hb : abody P kd call n ro fn args nx hp = some r) (C : Cx) (B : Nat) (F : Nat → Nat → Prop) (w0 : World) (vs : List Value) (hnx : C.nx = nx) (h : WRel C B F w0 hp [] #[]) (hl : vs.length = args.length)
    (hr : ∀ (i : Nat) (a : AVal) (v : Value), args[i]? = some a → vs[i]? = some v → RV C a v) : Ans P f vs.toArray C.w (Left C B F w0 r) := by
  unfold abody at hb
  cases hc : fn.body with
  | none => rw [hc] at hb; cases hb
  | some c =>
    rw [hc] at hb
    simp only at hb
    have hcalls : Calls P f vs.toArray C.w fun | .returned v, w' => Left C B F w0 r v w' | _, _ => False := by
      refine calls_of_wp hf hc ?_
      have hW := h.enter args vs hl hr (fn.ntmps - args.length)
      rw [show fn.ntmps - vs.toArray.size = fn.ntmps - args.length by simp [hl]]
      have fin : ∀ (x : AExit) (s : St), (x = .normal ∨ x = .ret) → aexec P kd call ro n c ⟨args.map (·, false) ++ List.replicate (fn.ntmps - args.length) (.tup [], false), C.nx, hp⟩ = some (x, s) → (aresults P fn.results.toList s).map (fun c => (⟨c.1, c.2, s.nx, s.hp⟩ : Res)) = some r →
          c.wp P (bodyPost P fn fun | .returned v, w' => Left C B F w0 r v w' | _, _ => False) ⟨vs.toArray ++ Array.replicate (fn.ntmps - args.length) undef, []⟩ C.w := by
        intro x s hx he hres
        obtain ⟨cr, hcr, rfl⟩ := Option.map_eq_some_iff.1 hres
        refine sound_exec hcall hdr ro [] n c C _ hp _ x s _ hW he fun D ct' le hxn hWD => ?_
        have hs : s = ⟨s.tm, D.nx, s.hp⟩ := by rw [hxn]
        rw [hs] at hcr
        obtain ⟨u, hu, hrv, ho⟩ := sound_results hWD fn hcr
        have hleft : Left C B F w0 ⟨cr.1, cr.2, s.nx, s.hp⟩ u D.w := by
          refine ⟨D, rfl, le, hxn, hWD.bare, hrv, fun hown => ?_⟩
          obtain ⟨t, ht⟩ := ho hown
          refine ⟨hWD.own _ _ _ ht, fun k v' cv' hk => ?_⟩
          obtain ⟨id, i, rfl, hk'⟩ := Owned.none_frame (tm := s.tm) (ct := ct') hk
          exact hWD.sep _ _ _ _ _ _ ht hk' (by simp)
        rcases hx with rfl | rfl
        · exact ⟨rfl, u, hu, hleft⟩
        · exact ⟨rfl, u, hu, hleft⟩
      rw [← hnx] at hb
      split at hb
      · rename_i s he; exact fin .normal s (.inl rfl) he hb
      · rename_i s he; exact fin .ret s (.inr rfl) he hb
      · cases hb
    intro o a next Q hn
    have hcf : (callFunc f vs.toArray).run P C.w = .ok (.enter f vs.toArray) C.w := by
      simp [callFunc, hf, hname, hc]
    rw [hcf]
    refine Calls.mono hcalls fun e w' he => ?_
    cases e with
    | returned v => exact hn v w' he
    | panicked ch => exact he.elim
    | outgrown => exact he.elim
/-- A value without variables stands for the same elsewhere. -/
theorem RV.noid {D E : Cx} (hI : ∀ b o, D.I b o → E.I b o) (hw : E.w = D.w) {v : AVal} {cv : Value} (h : RV D v cv) (hi : v.idsLt 0 = true) : RV E v cv := by
  induction h with
  | int k n => exact .int k n
  | bool b => exact .bool b
  | str s => exact .str s
  | agg cs vs hl h1 h ih =>
    simp only [AVal.idsLt] at hi
    exact .agg cs vs hl h1 fun i a v ha hv => ih i a v ha hv ((idsLts_iff _ _).1 hi a (List.mem_of_getElem? ha))
  | lst xs A c sz cu hc hz hs h1 hm h ih =>
    simp only [AVal.idsLt] at hi
    refine .lst xs A c sz cu hc hz hs h1 (fun i u hu => ?_) fun i u hu => ih i u hu (idsLts_flats.1 hi u (List.mem_of_getElem? hu))
    obtain ⟨b, o, e, q1, q2⟩ := hm i u hu
    exact ⟨b, o, e, hI _ _ q1, by rw [hw]; exact q2⟩
  | tup cs vs hl h ih =>
    simp only [AVal.idsLt] at hi
    exact .tup cs vs hl fun i a v ha hv => ih i a v ha hv ((idsLts_iff _ _).1 hi a (List.mem_of_getElem? ha))
  | ptr id off hid => simp [AVal.idsLt] at hi
  | pel e off b o cu h1 hm h ih =>
    simp only [AVal.idsLt] at hi
    refine .pel e off b o cu h1 (fun i u hu => ?_) fun i u hu => ih i u hu (idsLt_flat hi u (List.mem_of_getElem? hu))
    obtain ⟨q1, q2⟩ := hm i u hu
    exact ⟨hI _ _ q1, by rw [hw]; exact q2⟩
  | map id hid => simp [AVal.idsLt] at hi
  | sl id off len sz c ag hid hc hx => simp [AVal.idsLt] at hi
  | clo f fs cs fv cv hf hl h h' ih ih' =>
    simp only [AVal.idsLt, Bool.and_eq_true] at hi
    exact .clo f fs cs fv cv hf hl (fun i a v ha hv => ih i a v ha hv ((idsLts_iff _ _).1 hi.1 a (List.mem_of_getElem? ha))) (fun i a v ha hv => ih' i a v ha hv ((idsLts_iff _ _).1 hi.2 a (List.mem_of_getElem? ha)))
  | nilp => exact .nilp
  | nilf => exact .nilf
  | nilm => exact .nilm
  | nils => exact .nils
  | bad v => exact .bad v
/-- The context of a call that does not look at the heap. -/
def Cx.idle (C : Cx) : Cx := { C with nx := 0 }
def OldF (C : Cx) (b o : Nat) : Prop := ¬ C.I b o ∧ (∃ u, C.w.cell? ⟨b, o, none⟩ = some u) ∧ C.w.frozen? ⟨b, o, none⟩ = false
theorem WRel.idle (h : WRel C B F w0 hp [] #[]) : WRel C.idle C.w.heap.size (OldF C) C.w [] [] #[] := by
  have hg : ∀ i, ¬ (hget [] i).isSome = true := fun i h => by simp [hget] at h
  refine ⟨⟨Below.refl _ _, Nat.le_refl _, fun i hi => absurd hi (hg i), fun id cs h => by simp [hget] at h, fun i j hi => absurd hi (hg i), fun i hi => absurd hi (hg i), h.heap.imm, fun b o hF => ⟨hF.2.1, hF.2.2, hF.1⟩, fun id es h => by simp [hget] at h⟩, rfl, fun t c ht => by simp at ht, fun k v cv ho => ?_, fun k1 k2 v1 c1 v2 c2 h1 => ?_⟩
  · obtain ⟨i, t⟩ := k
    cases i with
    | zero => simp [Owned] at ho
    | succ id => obtain ⟨cs, vs, ty, h, _⟩ := ho; simp [hget] at h
  · obtain ⟨i, t⟩ := k1
    cases i with
    | zero => simp [Owned] at h1
    | succ id => obtain ⟨cs, vs, ty, h, _⟩ := h1; simp [hget] at h
theorem Left.lift (h : WRel C B F w0 hp [] #[]) {q : Res} {v : Value} {w' : World} (hq : q.nx = 0) (hl : Left C.idle C.w.heap.size (OldF C) C.w q v w') : Left C B F w0 ⟨q.v, q.own, C.nx, hp⟩ v w' := by
  obtain ⟨D, rfl, le, hx, hW, hr, ho⟩ := hl
  have hb := hW.heap.below
  have hBs : B ≤ C.w.heap.size := Nat.le_trans h.heap.base h.heap.below.size
  have hc : ∀ b o, b < C.w.heap.size → D.w.cell? ⟨b, o, none⟩ = C.w.cell? ⟨b, o, none⟩ := fun b o hlt => hb.cell (p := ⟨b, o, none⟩) hlt
  have hf : ∀ b o, b < C.w.heap.size → D.w.frozen? ⟨b, o, none⟩ = C.w.frozen? ⟨b, o, none⟩ := fun b o hlt => hb.frozen (p := ⟨b, o, none⟩) hlt
  have hI : ∀ b o, OldF C b o → ¬ D.I b o := fun b o hF => (hW.heap.far b o hF).2.2
  have le2 : C.Le { ι := C.ι, I := D.I, nx := C.nx, w := D.w } := ⟨Nat.le_refl _, fun _ _ => rfl, le.imm, le.cell, le.ex⟩
  have hblk : ∀ id, (hget hp id).isSome = true → D.w.heap[C.ι id]? = C.w.heap[C.ι id]? := fun id hid => hb.block _ (h.heap.out id hid).2.1
  have hown : ∀ k v cv, Owned { ι := C.ι, I := D.I, nx := C.nx, w := D.w } hp [] #[] k v cv → Owned C hp [] #[] k v cv := by
    intro k v cv hk
    obtain ⟨i, t⟩ := k
    cases i with
    | zero => simp [Owned] at hk
    | succ id =>
      obtain ⟨cs, vs, ty, h1, h2, h3, h4⟩ := hk
      exact ⟨cs, vs, ty, h1, h2, by rw [← hblk id (by rw [h1]; rfl)]; exact h3, h4⟩
  refine ⟨{ ι := C.ι, I := D.I, nx := C.nx, w := D.w }, rfl, le2, rfl, ⟨⟨h.heap.below.trans (hb.mono hBs), h.heap.base, h.heap.ids, fun id cs hid => ?_, h.heap.inj, fun i hi => ?_, fun b o hi => hW.heap.imm b o hi, fun b o hF => ?_, fun id es hg => (h.heap.mapb id es hg).mono le2 (hblk id (by rw [hg]; rfl))⟩, rfl, fun t c ht => by simp at ht, fun k v cv hk => ?_, fun k1 k2 v1 c1 v2 c2 h1 h2 => h.sep k1 k2 v1 c1 v2 c2 (hown _ _ _ h1) (hown _ _ _ h2)⟩, RV.noid (D := D) (E := { ι := C.ι, I := D.I, nx := C.nx, w := D.w }) (fun _ _ h => h) rfl hr (by have := hr.idsLt; rw [hx, hq] at this; exact this), fun hown' => ?_⟩
  · obtain ⟨vs, ty, h1, h2, h3⟩ := h.heap.blk id cs hid
    refine ⟨vs, ty, by rw [← h1]; exact hblk id (by rw [hid]; rfl), h2, fun i c hc => ?_⟩
    obtain ⟨r1, v, r2, r3⟩ := h3 i c hc
    exact ⟨r1, v, r2, r3.mono le2⟩
  · obtain ⟨o1, o2, o3⟩ := h.heap.out i hi
    refine ⟨o1, Nat.lt_of_lt_of_le o2 hb.size, fun o => ⟨fun hD => ?_, (o3 o).2⟩⟩
    obtain ⟨u, hu⟩ := hW.heap.imm _ _ hD
    rw [hc _ _ o2] at hu
    refine hI _ _ ⟨(o3 o).1, ⟨u, hu⟩, ?_⟩ hD
    obtain ⟨b, hb'⟩ := Option.isSome_iff_exists.1 hi
    cases b with
    | cells cs =>
      obtain ⟨vs, ty, h1, _⟩ := h.heap.blk i cs hb'
      simp [World.frozen?, h1]
    | map es =>
      obtain ⟨ents, clk, h1, _⟩ := h.heap.mapb i es hb'
      simp [World.cell?, h1] at hu
  · obtain ⟨f1, f2, f3⟩ := h.heap.far b o hF
    have hlt : b < C.w.heap.size := by obtain ⟨u, hu⟩ := f1; exact cell_lt hu
    exact ⟨by rw [hc b o hlt]; exact f1, by rw [hf b o hlt]; exact f2, hI b o ⟨f3, f1, f2⟩⟩
  · have ok := h.own k v cv (hown k v cv hk)
    refine ⟨ok.form, fun b o t => ?_⟩
    obtain ⟨a1, a2, a3, a4, a5, a6⟩ := ok.cells b o t
    have hlt : b < C.w.heap.size := by obtain ⟨u, hu⟩ := a5; exact cell_lt hu
    exact ⟨a1, hI b o ⟨a2, a5, a6⟩, a3, a4, by rw [hc b o hlt]; exact a5, by rw [hf b o hlt]; exact a6⟩
  · obtain ⟨o1, o2⟩ := ho hown'
    refine ⟨⟨o1.form, fun b o t => ?_⟩, fun k v' cv' hk b o t t' => ?_⟩
    · obtain ⟨a1, a2, a3, a4, a5, a6⟩ := o1.cells b o t
      refine ⟨Nat.le_trans hBs a1, a2, fun hF => ?_, fun id hid e => ?_, a5, a6⟩
      · obtain ⟨u, hu⟩ := (h.heap.far b o hF).1
        have := cell_lt hu
        omega
      · have : b = C.ι id := e
        have := (h.heap.out id hid).2.1
        omega
    · obtain ⟨a1, _⟩ := o1.cells b o t
      obtain ⟨_, _, _, _, ⟨u, hu⟩, _⟩ := (h.own k v' cv' (hown k v' cv' hk)).cells b o t'
      have := cell_lt hu
      omega
/-- The machine's calls are Go's. -/
theorem arun_good (K : Cfg) (hext : GoodCall K.P K.ext) (hsafe : RoCall K.ext) (hdr : ∀ n, Draws K.P (K.kd false) (arun K n)) (hname : ∀ (f : FuncId) (fn : Func), K.P.funcs[f]? = some fn → fn.name ≠ "runtime.NumGoroutine") : ∀ n, GoodCall K.P (arun K n) := by
  have hfin : ∀ {n : Nat} {f : FuncId} {args : List AVal} {ro nx : Nat} {hp : Heap} {x : Option Res} {r : Res}, fin K n f nx hp x = some r → (∀ q, x = some q → low K f ro nx ≤ nx → Safe (low K f ro nx) nx hp q.nx q.hp) → ∀ (C : Cx) (B : Nat) (F : Nat → Nat → Prop) (w0 : World) (vs : List Value), C.nx = nx → WRel C B F w0 hp [] #[] →
      (∀ q, x = some q → Ans K.P f vs.toArray C.w (Left C B F w0 q)) → Ans K.P f vs.toArray C.w (Left C B F w0 r) := by
    intro n f args ro nx hp x r hf hx C B F w0 vs hnx h ha
    unfold fin at hf
    split at hf
    · rename_i hp'
      obtain ⟨q, u, rfl, hfz, _, rfl⟩ := sealed_inv hf
      have hl : low K f ro nx = nx := by unfold low; rw [if_pos hp']
      rw [hl] at hx
      subst hnx
      intro o a next Q hn
      exact ha q rfl o a next Q fun v w' hl => hn v w' (hl.shut h hfz (hx q rfl (Nat.le_refl _)).2)
    · split at hf
      · obtain ⟨q, u, rfl, hfz, _, hcl, rfl⟩ := tidied_inv hf
        subst hnx
        intro o a next Q hn
        refine ha q rfl o a next Q fun v w' hl => hn v w' (hl.close hfz (fun id cs c hid hg hm => ?_) (fun id es p hid hg hm => ?_))
        rotate_left
        · have key : ∀ (l : Heap), hclean C.nx l = true → hget l id = some (.map es) → p.1.idsLt C.nx = true ∧ p.2.idsLt C.nx = true := by
            intro l
            induction l with
            | nil => intro _ hg; simp [hget] at hg
            | cons pp l ih =>
              obtain ⟨j, b⟩ := pp
              intro hcl hg
              simp only [hclean, List.all_cons, Bool.and_eq_true] at hcl
              simp only [hget] at hg
              split at hg
              · rename_i e
                cases hg
                have h1 := hcl.1
                rw [← e] at h1
                simp only [hid, decide_true, Bool.not_true, Bool.false_or] at h1
                have := List.all_eq_true.1 h1 p hm
                simpa using this
              · exact ih hcl.2 hg
          exact key q.hp hcl hg
        have key : ∀ (l : Heap), hclean C.nx l = true → hget l id = some (.cells cs) → c.1.idsLt C.nx = true := by
          intro l
          induction l with
          | nil => intro _ hg; simp [hget] at hg
          | cons p l ih =>
            obtain ⟨j, b⟩ := p
            intro hcl hg
            simp only [hclean, List.all_cons, Bool.and_eq_true] at hcl
            simp only [hget] at hg
            split at hg
            · rename_i e
              cases hg
              have h1 := hcl.1
              rw [← e] at h1
              simp only [hid, decide_true, Bool.not_true, Bool.false_or] at h1
              exact List.all_eq_true.1 h1 c hm
            · exact ih hcl.2 hg
        exact key q.hp hcl hg
      · exact ha r hf
  have wrap : ∀ {f : FuncId} {args : List AVal} {ro nx : Nat} {hp : Heap} {r : Res} {g : Nat → Nat → Heap → Option Res}, vlc K f args ro nx hp g = some r → (K.vl f = true → ∀ q, g 0 0 [] = some q → q.nx = 0) →
      (∀ (ro nx : Nat) (hp : Heap) (r : Res), g ro nx hp = some r → ∀ (C : Cx) (B : Nat) (F : Nat → Nat → Prop) (w0 : World) (vs : List Value), C.nx = nx → WRel C B F w0 hp [] #[] → vs.length = args.length → (∀ (i : Nat) (a : AVal) (v : Value), args[i]? = some a → vs[i]? = some v → RV C a v) → Ans K.P f vs.toArray C.w (Left C B F w0 r)) →
      ∀ (C : Cx) (B : Nat) (F : Nat → Nat → Prop) (w0 : World) (vs : List Value), C.nx = nx → WRel C B F w0 hp [] #[] → vs.length = args.length → (∀ (i : Nat) (a : AVal) (v : Value), args[i]? = some a → vs[i]? = some v → RV C a v) → Ans K.P f vs.toArray C.w (Left C B F w0 r) := by
    intro f args ro nx hp r g hv hz hg C B F w0 vs hnx h hl hrv
    unfold vlc at hv
    split at hv
    · rename_i hvl
      split at hv
      · rename_i hi
        cases hx : g 0 0 [] with
        | none => rw [hx] at hv; cases hv
        | some q =>
          rw [hx] at hv
          cases hv
          subst hnx
          have := hg 0 0 [] q hx C.idle C.w.heap.size (OldF C) C.w vs rfl h.idle hl (fun i a v ha hv => RV.noid (D := C) (E := C.idle) (fun _ _ h => h) rfl (hrv i a v ha hv) ((idsLts_iff _ _).1 hi a (List.mem_of_getElem? ha)))
          intro o a next Q hn
          exact this o a next Q fun v w' hl => hn v w' (hl.lift h (hz hvl q hx))
      · cases hv
    · exact hg ro nx hp r hv C B F w0 vs hnx h hl hrv
  have zero : ∀ {f : FuncId} {n : Nat} {x : Option Res} {q : Res}, K.vl f = true → fin K n f 0 [] x = some q → q.nx = 0 := by
    intro f n x q hv hq
    have hp' : K.pure f = true := by unfold Cfg.vl at hv; simp at hv; exact hv.2
    unfold fin at hq
    rw [if_pos hp'] at hq
    obtain ⟨_, _, _, _, _, rfl⟩ := sealed_inv hq
    rfl
  intro n
  induction n with
  | zero =>
    intro f args ro nx hp r hr
    rw [arun.eq_def] at hr
    simp only at hr
    refine wrap hr (fun hv q hq => zero hv hq) fun ro nx hp r hr C B F w0 vs hnx h hl hrv => ?_
    exact hfin (args := args) (ro := ro) hr (fun q hq hle => hsafe _ _ _ _ _ _ hq hle) C B F w0 vs hnx h fun q hq => hext _ _ _ _ _ _ hq C B F w0 vs hnx h hl hrv
  | succ n ih =>
    intro f args ro nx hp r hr
    rw [arun] at hr
    refine wrap hr (fun hv q hq => zero hv hq) fun ro nx hp r hr C B F w0 vs hnx h hl hrv => ?_
    refine hfin (args := args) (ro := ro) hr (fun q hq hle => ?_) C B F w0 vs hnx h fun q hq => ?_
    · unfold core at hq
      cases hx : K.ext f args (low K f ro nx) nx hp with
      | some q' => rw [hx] at hq; cases hq; exact hsafe _ _ _ _ _ _ hx hle
      | none =>
        rw [hx] at hq
        simp only at hq
        split at hq
        · cases hq
        cases hf : K.P.funcs[f]? with
        | none => rw [hf] at hq; cases hq
        | some fn => rw [hf] at hq; exact abody_safe (md := ⟨low K f ro nx, K.mu f⟩) (arun_safe K hsafe n) hle hq
    · unfold core at hq
      cases hx : K.ext f args (low K f ro nx) nx hp with
      | some q' => rw [hx] at hq; cases hq; exact hext _ _ _ _ _ _ hx C B F w0 vs hnx h hl hrv
      | none =>
        rw [hx] at hq
        simp only at hq
        split at hq
        · cases hq
        cases hf : K.P.funcs[f]? with
        | none => rw [hf] at hq; cases hq
        | some fn => rw [hf] at hq; exact abody_good ih (hdr n) hf (hname f fn hf) hq C B F w0 vs hnx h hl hrv
theorem R_good (K : Cfg) (hext : GoodCall K.P K.ext) (hsafe : RoCall K.ext) (hdr : ∀ n, Draws K.P (K.kd false) (arun K n)) (hname : ∀ (f : FuncId) (fn : Func), K.P.funcs[f]? = some fn → fn.name ≠ "runtime.NumGoroutine") : GoodCall K.P (R K) := by
  intro f args ro nx hp r hr
  obtain ⟨n, hn⟩ := R_iff.1 hr
  exact arun_good K hext hsafe hdr hname n f args ro nx hp r hn
end
end Go.Proofs.YtkpfkadjmijmlaaGreatDoor.M
/- The order that a region draws does not matter. -/
namespace Go.Proofs.YtkpfkadjmijmlaaGreatDoor.M
open Go
set_option linter.unusedVariables false
variable {P : Program} {kd : Knd} {call : CallF} {ops : Array Oper} {ro : Md}

def Same (mu : List TypeId) (ops : Array Oper) (o : Oper) (ρ ρ' : Rho) : Prop := ∀ x ∈ o.op.operands, (ρ x).1 = (ρ' x).1 ∧ ((∀ t, x = .tmp t → srcOf mu ops o = some t) → ρ x = ρ' x)
theorem amove_same {take : Bool} {x : Operand} {c c' : Cell} {nx : Nat} {hp : Heap} (h1 : c.1 = c'.1) (h2 : (∀ t, x = .tmp t → take = true) → c = c') : amove take x c nx hp = amove take x c' nx hp := by
  cases x with
  | tmp t =>
    cases take with
    | true => rw [h2 fun _ _ => rfl]
    | false =>
      obtain ⟨v, b⟩ := c; obtain ⟨v', b'⟩ := c'
      simp only at h1; subst h1
      cases b <;> cases b' <;> rfl
  | const v => rw [h2 fun t h => by cases h]
  | func f => rw [h2 fun t h => by cases h]
  | global g => rw [h2 fun t h => by cases h]
theorem astore_same {t : TypeId} {a : AVal} {x : Operand} {c c' : Cell} {nx : Nat} {hp : Heap} (h1 : c.1 = c'.1) (h2 : (∀ u, x = .tmp u → makes ops u = true) → c = c') : astore P ops ro t a x c nx hp = astore P ops ro t a x c' nx hp := by
  cases x with
  | tmp u =>
    cases hm : makes ops u with
    | true => rw [h2 fun _ e => by cases e; exact hm]
    | false =>
      obtain ⟨v, b⟩ := c; obtain ⟨v', b'⟩ := c'
      simp only at h1; subst h1
      unfold astore
      cases b <;> cases b' <;> simp [hm]
  | const v => rw [h2 fun t h => by cases h]
  | func f => rw [h2 fun t h => by cases h]
  | global g => rw [h2 fun t h => by cases h]
theorem aeff_same {o : Oper} {ρ ρ' : Rho} (h : Same ro.mu ops o ρ ρ') (nx : Nat) (hp : Heap) : aeff P call ops ro o ρ nx hp = aeff P call ops ro o ρ' nx hp := by
  obtain ⟨dst, op, type, pos, after, guard⟩ := o
  unfold Same at h
  cases op with
  | move x =>
    obtain ⟨h1, h2⟩ := h x (by simp [Op.operands])
    simp only [aeff, aeff0]
    cases hc : cuts ro.mu ops dst with
    | true => rw [h2 fun t e => by subst e; simp [srcOf, hc]]
    | false =>
      simp only [Bool.false_eq_true, if_false]
      refine amove_same h1 fun hh => h2 fun t e => ?_
      subst e; simp [srcOf, hh t rfl]
  | assign x =>
    obtain ⟨h1, h2⟩ := h x (by simp [Op.operands])
    refine amove_same h1 fun hh => h2 fun t e => ?_
    subst e
    have := hh t rfl
    simp only at this
    simp [srcOf, this]
  | store t a x =>
    obtain ⟨h1, h2⟩ := h x (by simp [Op.operands])
    obtain ⟨h3, _⟩ := h a (by simp [Op.operands])
    simp only [aeff, aeff0]
    rw [h3]
    refine astore_same h1 fun hh => h2 fun t e => ?_
    subst e
    simp [srcOf, hh t rfl]
  | build t ps =>
    simp only [aeff, aeff0]
    rw [show (ps.toList.map fun p => (p.1, (ρ p.2).1)) = ps.toList.map fun p => (p.1, (ρ' p.2).1) from List.map_congr_left fun p hp => by
      rw [(h p.2 (by simp [Op.operands]; exact ⟨p.1, by simpa using hp⟩)).1]]
  | buildSlice t n ps =>
    simp only [aeff, aeff0]
    rw [show (ps.toList.map fun p => (p.1, (ρ p.2).1)) = ps.toList.map fun p => (p.1, (ρ' p.2).1) from List.map_congr_left fun p hp => by
      rw [(h p.2 (by simp [Op.operands]; exact ⟨p.1, by simpa using hp⟩)).1]]
  | makeFunc f a b =>
    have e1 : a.toList.map (fun x => (ρ x).1) = a.toList.map (fun x => (ρ' x).1) := List.map_congr_left fun x hx => (h x (by simp [Op.operands]; left; simpa using hx)).1
    have e2 : b.toList.map (fun x => (ρ x).1) = b.toList.map (fun x => (ρ' x).1) := List.map_congr_left fun x hx => (h x (by simp [Op.operands]; right; simpa using hx)).1
    cases f <;> simp [aeff, aeff0, e1, e2]
  | makeMap t r => cases r <;> rfl
  | slice t x lo hi mx =>
    have e0 := (h x (by simp [Op.operands])).1
    have e4 : nilC ro.mu t (ρ x) = nilC ro.mu t (ρ' x) := by
      cases hm : ro.mu.contains t with
      | true => rw [(h x (by simp [Op.operands])).2 fun u e => by subst e; simp only [srcOf, hm, if_true]]
      | false => simp only [nilC, hm, Bool.false_and]
    have e1 : lo.map (fun x => (ρ x).1) = lo.map (fun x => (ρ' x).1) := by cases lo with | none => rfl | some y => simp [(h y (by simp [Op.operands])).1]
    have e2 : hi.map (fun x => (ρ x).1) = hi.map (fun x => (ρ' x).1) := by cases hi with | none => rfl | some y => simp [(h y (by simp [Op.operands])).1]
    have e3 : mx.map (fun x => (ρ x).1) = mx.map (fun x => (ρ' x).1) := by cases mx with | none => rfl | some y => simp [(h y (by simp [Op.operands])).1]
    simp only [aeff, aeff0, e0, e1, e2, e3, e4]
  | call c =>
    obtain ⟨callee, args, ts⟩ := c
    cases callee with
    | invoke a b => rfl
    | value f =>
      have e0 := (h f (by simp [Op.operands, Call.operands])).1
      have e1 : args.toList.map (fun x => argOf ro.mu x (ρ x).1) = args.toList.map (fun x => argOf ro.mu x (ρ' x).1) := List.map_congr_left fun x hx => by rw [(h x (by simp [Op.operands, Call.operands]; right; simpa using hx)).1]
      simp only [aeff, acall, e0, e1]
    | builtin b =>
      simp only [aeff, acall]
      have hx : ∀ x ∈ args.toList, (ρ x).1 = (ρ' x).1 := fun x hx => (h x (by simp [Op.operands, Call.operands]; simpa using hx)).1
      unfold abuiltin
      have fm : ∀ (g : AVal → AVal → Option AVal) (l : List Operand) (i : AVal), (∀ x ∈ l, (ρ x).1 = (ρ' x).1) → l.foldlM (fun a y => g a (ρ y).1) i = l.foldlM (fun a y => g a (ρ' y).1) i := by
        intro g l
        induction l with
        | nil => intro i _; rfl
        | cons y l ih =>
          intro i hl
          rw [List.foldlM_cons, List.foldlM_cons, hl y (by simp)]
          congr 1
          funext z
          exact ih z fun x hx => hl x (by simp [hx])
      split
      · rename_i x hl; rw [hx x (by simp [hl])]
      · rename_i x r hl; rw [hx x (by simp [hl]), fm _ _ _ fun y hy => hx y (by simp [hl, hy])]
      · rename_i x r hl; rw [hx x (by simp [hl]), fm _ _ _ fun y hy => hx y (by simp [hl, hy])]
      · rename_i u y hl
        have e1 : ρ u = ρ' u := (h u (by simp [Op.operands, Call.operands, ← Array.mem_toList_iff, hl])).2 fun t e => by subst e; simp [srcOf, hl]
        rw [hx y (by simp [hl]), e1]
      · rfl
  | _ => first
    | rfl
    | (have hh := fun x hx => (h x hx).1
       simp [Op.operands] at hh
       simp only [aeff, aeff0, hh]
       done)

theorem amove_clr {take : Bool} {x : Operand} {c : Cell} {nx : Nat} {hp : Heap} {q : Out} (h : amove take x c nx hp = some q) : q.nx = nx ∧ q.hp = hp ∧ ∀ t, q.clr = some t → x = .tmp t ∧ take = true := by
  unfold amove at h
  split at h
  · split at h
    · cases h; exact ⟨rfl, rfl, fun t e => by cases e; exact ⟨rfl, by assumption⟩⟩
    · cases h; exact ⟨rfl, rfl, fun t e => by cases e⟩
  · cases h; exact ⟨rfl, rfl, fun t e => by cases e⟩
  · cases h; exact ⟨rfl, rfl, fun t e => by cases e⟩
theorem amove_light {take : Bool} {x : Operand} {c : Cell} {nx : Nat} {hp : Heap} {q : Out} (h : amove take x c nx hp = some q) : ∀ nx' hp', amove take x c nx' hp' = some { q with nx := nx', hp := hp' } := by
  intro nx' hp'
  unfold amove at h ⊢
  split at h <;> (try split at h) <;> cases h <;> simp_all [Out.val]
theorem aload_clr {d : Option Tmp} {t : TypeId} {a : AVal} {nx : Nat} {hp : Heap} {q : Out} (h : aload P ops ro d t a nx hp = some q) : q.clr = none ∧ ((feeds ops d && !ro.mu.contains t) = false → q.nx = nx ∧ q.hp = hp) := by
  unfold aload at h
  split at h
  · split at h
    · split at h
      · split at h
        · cases h; exact ⟨rfl, fun _ => ⟨rfl, rfl⟩⟩
        · cases h
      · split at h
        · split at h
          · rename_i hf
            split at h
            · cases h; exact ⟨rfl, fun _ => ⟨rfl, rfl⟩⟩
            · split at h
              · rename_i hc
                cases h
                refine ⟨rfl, fun hf' => ?_⟩
                rw [hf, Bool.true_and] at hf'
                rw [hf'] at hc
                simp at hc
              · cases h; exact ⟨rfl, fun _ => ⟨rfl, rfl⟩⟩
          · cases h; exact ⟨rfl, fun _ => ⟨rfl, rfl⟩⟩
        · cases h; exact ⟨rfl, fun _ => ⟨rfl, rfl⟩⟩
        · cases h
      · cases h
    · cases h
  · obtain ⟨v, hv, rfl⟩ := Option.map_eq_some_iff.1 h
    exact ⟨rfl, fun _ => ⟨rfl, rfl⟩⟩
  · cases h
theorem astore_clr {t : TypeId} {a : AVal} {x : Operand} {c : Cell} {nx : Nat} {hp : Heap} {q : Out} (h : astore P ops ro t a x c nx hp = some q) : ∀ u, q.clr = some u → x = .tmp u ∧ makes ops u = true := by
  unfold astore at h
  intro u hu
  split at h
  · split at h
    · split at h
      · split at h
        · split at h
          · rename_i hm; cases h; cases hu; exact ⟨rfl, hm.1⟩
          · cases h; cases hu
        · cases h; cases hu
        · cases h; cases hu
      · cases h
    · cases h
  · cases h
theorem val_inv {nx : Nat} {hp : Heap} {v : Option AVal} {q : Out} (h : v.map (Out.val nx hp) = some q) : ∃ a, v = some a ∧ q = .val nx hp a := by
  obtain ⟨a, ha, e⟩ := Option.map_eq_some_iff.1 h
  exact ⟨a, ha, e.symm⟩
theorem aappendO_light {ts : List TypeId} {xs : List AVal} {y : AVal} {clr : Option Tmp} {nx : Nat} {hp : Heap} {q : Out} (h : aappendO P ts xs y clr nx hp = some q) : q.nx = nx ∧ q.hp = hp ∧ q.clr = clr ∧ ∀ nx' hp', aappendO P ts xs y clr nx' hp' = some { q with nx := nx', hp := hp' } := by
  unfold aappendO at h
  split at h
  · rename_i zs t t2
    split at h
    · rename_i hu
      obtain ⟨a, ha, rfl⟩ := Option.map_eq_some_iff.1 h
      exact ⟨rfl, rfl, rfl, fun nx' hp' => by simp [aappendO, hu, ha]⟩
    · cases h
  · cases h
theorem abuiltin_light {b : Builtin} {ts : Array TypeId} {xs : Array Operand} {ρ : Rho} {nx : Nat} {hp : Heap} {q : Out} (hm : appendsAt ro.mu ts.toList = false) (h : abuiltin P ro b ts xs ρ nx hp = some q) :
    q.nx = nx ∧ q.hp = hp ∧ ∀ nx' hp', abuiltin P ro b ts xs ρ nx' hp' = some { q with nx := nx', hp := hp' } := by
  unfold abuiltin at h
  split at h
  · rename_i x hl
    split at h
    · rename_i t ht
      obtain ⟨a, ha, rfl⟩ := val_inv h
      exact ⟨rfl, rfl, fun nx' hp' => by simp [abuiltin, hl, ht, ha, Out.val]⟩
    · cases h
  · rename_i x r hl
    obtain ⟨a, ha, rfl⟩ := val_inv h
    exact ⟨rfl, rfl, fun nx' hp' => by simp [abuiltin, hl, ha, Out.val]⟩
  · rename_i x r hl
    obtain ⟨a, ha, rfl⟩ := val_inv h
    exact ⟨rfl, rfl, fun nx' hp' => by simp [abuiltin, hl, ha, Out.val]⟩
  · rename_i x y hl
    rw [if_neg (by rw [hm]; decide)] at h
    split at h
    · rename_i u ys hy
      obtain ⟨h1, h2, _, h4⟩ := aappendO_light h
      refine ⟨h1, h2, fun nx' hp' => ?_⟩
      unfold abuiltin
      simp only [hl]
      rw [if_neg (by rw [hm]; decide)]
      simp only [hy]
      exact h4 nx' hp'
    · rename_i u hy
      obtain ⟨h1, h2, _, h4⟩ := aappendO_light h
      refine ⟨h1, h2, fun nx' hp' => ?_⟩
      unfold abuiltin
      simp only [hl]
      rw [if_neg (by rw [hm]; decide)]
      simp only [hy]
      exact h4 nx' hp'
    · cases h
  · cases h
theorem aappendM_clr {lo : Nat} {ts : List TypeId} {x : Operand} {c : Cell} {y : AVal} {nx : Nat} {hp : Heap} {q : Out} (h : aappendM P lo ts x c y nx hp = some q) (t : Tmp) (ht : q.clr = some t) : x = .tmp t := by
  unfold aappendM at h
  split at h
  rotate_left
  · cases h
  split at h
  rotate_left
  · cases h
  split at h
  rotate_left
  · cases h
  split at h
  rotate_left
  · cases h
  split at h
  · split at h
    · cases h
      cases x <;> first | (cases ht; done) | (cases ht; rfl)
    · split at h
      · cases h; cases ht
      · cases h
  · split at h
    · split at h
      · cases h; cases ht
      · cases h
    · cases h
  · split at h
    · cases h; cases ht
    · split at h
      · cases h; cases ht
      · cases h
  · cases h
theorem abuiltin_clr {b : Builtin} {ts : Array TypeId} {xs : Array Operand} {ρ : Rho} {nx : Nat} {hp : Heap} {q : Out} (h : abuiltin P ro b ts xs ρ nx hp = some q) (t : Tmp) (ht : q.clr = some t) : ∃ y, b = .append ∧ xs.toList = [.tmp t, y] := by
  unfold abuiltin at h
  split at h
  · split at h
    · obtain ⟨a, ha, rfl⟩ := val_inv h; cases ht
    · cases h
  · obtain ⟨a, ha, rfl⟩ := val_inv h; cases ht
  · obtain ⟨a, ha, rfl⟩ := val_inv h; cases ht
  · rename_i x y hl
    by_cases hm : appendsAt ro.mu ts.toList = true
    · rw [if_pos hm] at h
      have := aappendM_clr h t ht
      subst this
      exact ⟨y, rfl, hl⟩
    · rw [if_neg hm] at h
      split at h
      · rw [(aappendO_light h).2.2.1] at ht; cases ht; exact ⟨y, rfl, hl⟩
      · rw [(aappendO_light h).2.2.1] at ht; cases ht
      · cases h
  · cases h

def PureCalls (pure : FuncId → Bool) (call : CallF) : Prop := ∀ f args ro nx hp r, pure f = true → call f args ro nx hp = some r → r.nx = nx ∧ r.hp = hp
def ValCalls (vl : FuncId → Bool) (call : CallF) : Prop := ∀ f args ro nx hp r, vl f = true → call f args ro nx hp = some r → r.nx = nx ∧ r.hp = hp ∧ ∀ ro' nx' hp', call f args ro' nx' hp' = some ⟨r.v, r.own, nx', hp'⟩
/-- The variable stays. -/
def Stay (h h' : Heap) (f : Option Nat) : Prop := ∀ id, f = some id → hget h id = hget h' id
structure Kds (kd : Knd) (call : CallF) : Prop where
  pure : PureCalls kd.pure call
  vl : ValCalls kd.vl call
  sub : ∀ f, kd.vl f = true → kd.pure f = true
  ftp : ∀ f, kd.ft f = true → kd.pure f = true
  ft : ∀ f a ro nx hp r, kd.ft f = true → call f [a] ro nx hp = some r → ∀ nx' hp', Stay hp hp' (footS a) → call f [a] ro nx' hp' = some ⟨r.v, r.own, nx', hp'⟩
/-- Where heap and count are not looked at, they are not changed. -/
theorem aeff_light (hk : Kds kd call) {o : Oper} {tm : List Cell} {nx : Nat} {hp : Heap} {q : Out} (hh : heapy kd.vl ro.mu o = false) (h : aeff P call ops ro o (ev tm) nx hp = some q) :
    q.nx = nx ∧ q.hp = hp ∧ ∀ nx' hp', aeff P call ops ro o (ev tm) nx' hp' = some { q with nx := nx', hp := hp' } := by
  obtain ⟨dst, op, type, pos, after, guard⟩ := o
  cases op <;> first
    | (cases hh; done)
    | (cases h; done)
    | skip
  case move x =>
    simp only [aeff, aeff0] at h ⊢
    split at h
    · rename_i hc
      unfold acut at h; injection h with h; subst h
      exact ⟨rfl, rfl, fun _ _ => by rw [if_pos hc]; rfl⟩
    · rename_i hc
      obtain ⟨h1, h2, _⟩ := amove_clr h
      refine ⟨h1, h2, fun nx' hp' => ?_⟩
      rw [if_neg hc]
      exact amove_light h nx' hp'
  case assign x =>
    obtain ⟨h1, h2, _⟩ := amove_clr h
    exact ⟨h1, h2, amove_light h⟩
  case call c =>
    obtain ⟨callee, args, ts⟩ := c
    cases callee with
    | invoke a b => cases h
    | value f =>
      have hv : pureCall kd.vl ⟨.value f, args, ts⟩ = true := by
        have h1 : (!pureCall kd.vl ⟨.value f, args, ts⟩) = false := hh
        cases h2 : pureCall kd.vl ⟨.value f, args, ts⟩ with
        | true => rfl
        | false => rw [h2] at h1; cases h1
      cases f with
      | func g =>
        have hv : kd.vl g = true := hv
        simp only [aeff, acall, ev] at h ⊢
        split at h
        · rename_i r hr
          cases h
          obtain ⟨e1, e2, e3⟩ := hk.vl _ _ _ _ _ _ hv hr
          exact ⟨e1, e2, fun nx' hp' => by rw [e3]⟩
        · cases h
      | _ => cases hv
    | builtin b =>
      simp only [aeff, acall] at h ⊢
      exact abuiltin_light hh h
  case makeFunc f a b =>
    cases f <;> first | (cases h; done) | skip
    cases h
    exact ⟨rfl, rfl, fun _ _ => rfl⟩
  case pick c a b =>
    simp only [aeff, aeff0] at h ⊢
    split at h
    · rename_i b hb; cases h; exact ⟨rfl, rfl, fun _ _ => by simp [Out.val]⟩
    · cases h
  case buildSlice t n ps =>
    simp only [aeff, aeff0] at h ⊢
    split at h
    · rename_i e he
      split at h
      · rename_i hc
        have hm : ro.mu.contains t = false := hh
        simp only [hm, Bool.false_eq_true, if_false] at h ⊢
        cases h; exact ⟨rfl, rfl, fun _ _ => by simp only [if_pos hc]⟩
      · cases h
    · cases h
  case nilCheck x =>
    simp only [aeff, aeff0] at h ⊢
    split at h <;> cases h <;> exact ⟨rfl, rfl, fun _ _ => by simp [Out.val]⟩
  case slice t x lo hi mx =>
    simp only [aeff, aeff0] at h ⊢
    obtain ⟨a, ha, rfl⟩ := Option.map_eq_some_iff.1 h
    exact ⟨rfl, rfl, fun _ _ => by simp [ha, clipped]⟩
  case extract x i =>
    simp only [aeff, aeff0] at h ⊢
    split at h
    · rename_i vs he
      obtain ⟨a, ha, rfl⟩ := val_inv h
      exact ⟨rfl, rfl, fun _ _ => by simp [ha, Out.val]⟩
    · cases h
  all_goals
    simp only [aeff, aeff0] at h ⊢
    obtain ⟨a, ha, rfl⟩ := val_inv h
    exact ⟨rfl, rfl, fun _ _ => by simp [ha, Out.val]⟩
theorem aeff_still (hk : Kds kd call) {o : Oper} {tm : List Cell} {nx : Nat} {hp : Heap} {q : Out} (hh : effectful ro.mu kd.pure ops o = false) (h : aeff P call ops ro o (ev tm) nx hp = some q) : q.nx = nx ∧ q.hp = hp := by
  cases hy : heapy kd.vl ro.mu o with
  | false => obtain ⟨h1, h2, _⟩ := aeff_light hk hy h; exact ⟨h1, h2⟩
  | true =>
    obtain ⟨dst, op, type, pos, after, guard⟩ := o
    cases op <;> first
      | (cases hy; done)
      | (cases hh; done)
      | skip
    case load t a => exact (aload_clr h).2 hh
    case lookup t m k ok =>
      obtain ⟨a, _, rfl⟩ := val_inv h
      exact ⟨rfl, rfl⟩
    case buildSlice t n ps =>
      have h1 : ro.mu.contains t = true := hy
      have h2 : ro.mu.contains t = false := hh
      rw [h1] at h2; cases h2
    case call c =>
      obtain ⟨callee, args, ts⟩ := c
      cases callee with
      | invoke a b => cases h
      | builtin b =>
        have h1 : appendsAt ro.mu ts.toList = true := hy
        have h2 : appendsAt ro.mu ts.toList = false := hh
        rw [h1] at h2; cases h2
      | value f =>
        simp only [effectful, pureCall] at hh
        cases f with
        | func g =>
          simp only [aeff, acall, ev] at h
          split at h
          · rename_i r hr
            cases h
            have : kd.pure g = true := by simpa using hh
            exact hk.pure _ _ _ _ _ _ this hr
          · cases h
        | _ => cases hh
theorem aeff_clr {o : Oper} {ρ : Rho} {nx : Nat} {hp : Heap} {q : Out} (h : aeff P call ops ro o ρ nx hp = some q) (t : Tmp) (ht : q.clr = some t) : srcOf ro.mu ops o = some t ∧ Operand.tmp t ∈ o.op.operands := by
  obtain ⟨dst, op, type, pos, after, guard⟩ := o
  cases op <;> first
    | (cases h; done)
    | skip
  case move x =>
    simp only [aeff, aeff0] at h
    split at h
    · unfold acut at h; injection h with h; subst h; cases ht
    · obtain ⟨rfl, h2⟩ := (amove_clr h).2.2 t ht
      simp [srcOf, h2, Op.operands]
  case assign x =>
    obtain ⟨rfl, h2⟩ := (amove_clr h).2.2 t ht
    simp only at h2
    simp [srcOf, h2, Op.operands]
  case store t' a x =>
    obtain ⟨rfl, h2⟩ := astore_clr h t ht
    simp [srcOf, h2, Op.operands]
  case load t' a => rw [(aload_clr h).1] at ht; cases ht
  case call c =>
    obtain ⟨callee, args, ts⟩ := c
    cases callee with
    | invoke a b => cases h
    | value f =>
      simp only [aeff, acall] at h
      split at h
      · split at h
        · cases h; cases ht
        · cases h
      · cases h
    | builtin b =>
      simp only [aeff, acall] at h
      obtain ⟨y, rfl, hl⟩ := abuiltin_clr h t ht
      refine ⟨by simp [srcOf, hl], by simp [Op.operands, Call.operands, ← Array.mem_toList_iff, hl]⟩
  case makeFunc f a b =>
    cases f <;> first
      | (cases h; done)
      | (cases h; cases ht; done)
  case makeMap t' r =>
    cases r with
    | some x => cases h
    | none =>
      simp only [aeff, aeff0] at h
      split at h
      · cases h; cases ht
      · cases h
  case slice t' x lo hi mx =>
    simp only [aeff, aeff0] at h
    obtain ⟨r, _, rfl⟩ := Option.map_eq_some_iff.1 h
    cases ht
  case insert t' m k v =>
    simp only [aeff, aeff0] at h
    obtain ⟨hp', _, rfl⟩ := Option.map_eq_some_iff.1 h
    cases ht
  case mapUpdate t' m k v =>
    simp only [aeff, aeff0] at h
    obtain ⟨hp', _, rfl⟩ := Option.map_eq_some_iff.1 h
    cases ht
  all_goals
    exfalso
    simp only [aeff, aeff0] at h
    repeat' split at h
    all_goals first
      | (cases h; done)
      | (cases h; cases ht; done)
      | (obtain ⟨a, ha, rfl⟩ := val_inv h; cases ht; done)
      | skip

/-! Two steps that may change places. -/
theorem unflag_get (tm : List Cell) (t k : Nat) : (unflag tm t)[k]? = if t = k then tm[k]?.map (fun c => (c.1, false)) else tm[k]? := by
  unfold unflag
  split
  · rename_i c hc
    rw [List.getElem?_set]
    split
    · rename_i e; subst e
      obtain ⟨hl, rfl⟩ := List.getElem?_eq_some_iff.1 hc
      simp [hl]
    · rfl
  · rename_i hc
    split
    · rename_i e; subst e; rw [hc]; rfl
    · rfl
theorem set_get (tm : List Cell) (d k : Nat) (c : Cell) : (tm.set d c)[k]? = if d = k then tm[k]?.map (fun _ => c) else tm[k]? := by
  rw [List.getElem?_set]
  split
  · rename_i e; subst e
    split
    · rename_i hl; rw [List.getElem?_eq_getElem hl]; rfl
    · rename_i hl; rw [List.getElem?_eq_none (by omega)]; rfl
  · rfl
theorem put_get (q : Out) (d : Option Tmp) (tm : List Cell) (k : Nat) : (q.put d tm).tm[k]? =
    if d = some k then tm[k]?.map (fun _ => (q.v, q.own)) else if q.clr = some k then tm[k]?.map (fun c => (c.1, false)) else tm[k]? := by
  unfold Out.put
  cases d with
  | none =>
    cases q.clr with
    | none => simp
    | some t => simp [unflag_get]
  | some d =>
    cases q.clr with
    | none => simp [set_get]
    | some t =>
      simp only [set_get, unflag_get, Option.some.injEq]
      split
      · split
        · simp [Option.map_map]; rfl
        · rfl
      · rfl
theorem gate_same {x y : Option Cell} {w : Bool} (h : x.map (·.1) = y.map (·.1)) : gate x w = gate y w := by
  cases x with
  | none => cases y with | none => rfl | some c => cases h
  | some c => cases y with
    | none => cases h
    | some c' =>
      obtain ⟨v, b⟩ := c; obtain ⟨v', b'⟩ := c'
      simp only [Option.map_some, Option.some.injEq] at h
      subst h
      cases v <;> rfl
theorem mem_tmpsOf {l : List Operand} {t : Tmp} : t ∈ tmpsOf l ↔ Operand.tmp t ∈ l := by
  unfold tmpsOf
  rw [List.mem_filterMap]
  constructor
  · rintro ⟨x, hx, h⟩
    cases x <;> cases h
    exact hx
  · intro h; exact ⟨_, h, rfl⟩
theorem wanted_put {o : Oper} {q : Out} {d : Option Tmp} {tm : List Cell} (h : ∀ t, d = some t → t ∉ namesOf ops o) : awanted ops (q.put d tm).tm o = awanted ops tm o := by
  unfold awanted
  split
  · rfl
  · rename_i j w hg
    split
    · rename_i t ht
      refine gate_same ?_
      rw [put_get]
      have : d ≠ some t := fun e => h t e (by unfold namesOf; simp [hg, ht])
      rw [if_neg this]
      split
      · cases tm[t]? <;> rfl
      · rfl
    · rfl
theorem same_put {o : Oper} {q : Out} {d : Option Tmp} {tm : List Cell} (h : ∀ t, d = some t → t ∉ namesOf ops o) (hs : ∀ t, q.clr = some t → srcOf ro.mu ops o ≠ some t) : Same ro.mu ops o (ev (q.put d tm).tm) (ev tm) := by
  intro x hx
  cases x with
  | tmp t =>
    have hd : d ≠ some t := fun e => h t e (by unfold namesOf; rw [List.mem_append]; left; rw [mem_tmpsOf]; simpa using hx)
    simp only [ev]
    rw [put_get, if_neg hd]
    constructor
    · split
      · cases tm[t]? <;> rfl
      · rfl
    · intro hh
      have := hh t rfl
      rw [if_neg fun e => hs t e this]
  | const v => exact ⟨rfl, fun _ => rfl⟩
  | func f => exact ⟨rfl, fun _ => rfl⟩
  | global g => exact ⟨rfl, fun _ => rfl⟩
theorem put_comm {qa qb : Out} {da db : Option Tmp} {tm : List Cell} (h1 : ∀ t, da = some t → db ≠ some t) (h2 : ∀ t, da = some t → qb.clr ≠ some t) (h3 : ∀ t, db = some t → qa.clr ≠ some t) :
    (qb.put db (qa.put da tm).tm).tm = (qa.put da (qb.put db tm).tm).tm := by
  refine List.ext_getElem? fun k => ?_
  simp only [put_get]
  by_cases ha : da = some k
  · have hb := h1 k ha
    have hc := h2 k ha
    simp [ha, hb, hc]
  · by_cases hb : db = some k
    · have hc := h3 k hb
      simp [ha, hb, hc]
    · simp only [if_neg ha, if_neg hb]
      split <;> split <;> simp [Option.map_map]

def aout (P : Program) (call : CallF) (ops : Array Oper) (ro : Md) (o : Oper) (s : St) : Option Out := match awanted ops s.tm o with
  | some true => aeff P call ops ro o (ev s.tm) s.nx s.hp
  | some false => some (.val s.nx s.hp (.tup []))
  | none => none
theorem astep_out (o : Oper) (s : St) : astep P call ops ro o s = (aout P call ops ro o s).map (·.put o.dst s.tm) := by
  unfold astep aout
  cases awanted ops s.tm o with
  | none => rfl
  | some b => cases b <;> rfl
theorem aout_same {o : Oper} {tm tm' : List Cell} {nx : Nat} {hp : Heap} (h1 : awanted ops tm' o = awanted ops tm o) (h2 : Same ro.mu ops o (ev tm') (ev tm)) : aout P call ops ro o ⟨tm', nx, hp⟩ = aout P call ops ro o ⟨tm, nx, hp⟩ := by
  unfold aout
  simp only [h1, aeff_same h2]
theorem aout_light (hk : Kds kd call) {o : Oper} {tm : List Cell} {nx : Nat} {hp : Heap} {q : Out} (hh : heapy kd.vl ro.mu o = false) (h : aout P call ops ro o ⟨tm, nx, hp⟩ = some q) :
    q.nx = nx ∧ q.hp = hp ∧ ∀ nx' hp', aout P call ops ro o ⟨tm, nx', hp'⟩ = some { q with nx := nx', hp := hp' } := by
  unfold aout at h ⊢
  simp only at h ⊢
  split at h
  · exact aeff_light hk hh h
  · cases h; exact ⟨rfl, rfl, fun _ _ => rfl⟩
  · cases h
theorem aout_still (hk : Kds kd call) {o : Oper} {tm : List Cell} {nx : Nat} {hp : Heap} {q : Out} (hh : effectful ro.mu kd.pure ops o = false) (h : aout P call ops ro o ⟨tm, nx, hp⟩ = some q) : q.nx = nx ∧ q.hp = hp := by
  unfold aout at h
  simp only at h
  split at h
  · exact aeff_still hk hh h
  · cases h; exact ⟨rfl, rfl⟩
  · cases h
theorem aout_clr {o : Oper} {s : St} {q : Out} (h : aout P call ops ro o s = some q) (t : Tmp) (ht : q.clr = some t) : srcOf ro.mu ops o = some t ∧ t ∈ namesOf ops o := by
  unfold aout at h
  split at h
  · obtain ⟨h1, h2⟩ := aeff_clr h t ht
    exact ⟨h1, by unfold namesOf; rw [List.mem_append]; left; rw [mem_tmpsOf]; simpa using h2⟩
  · cases h; cases ht
  · cases h
theorem put_nx (q : Out) (d : Option Tmp) (tm : List Cell) : q.put d tm = ⟨(q.put d tm).tm, q.nx, q.hp⟩ := rfl
theorem apartD_spec {d : Option Tmp} {l : List Tmp} (h : apartD d l = true) (t : Tmp) (ht : d = some t) : t ∉ l := by
  subst ht
  simpa [apartD] using h
theorem astep_still (hk : Kds kd call) {o : Oper} {s s' : St} (hh : effectful ro.mu kd.pure ops o = false) (h : astep P call ops ro o s = some s') : s'.nx = s.nx ∧ s'.hp = s.hp := by
  rw [astep_out] at h
  obtain ⟨q, hq, rfl⟩ := Option.map_eq_some_iff.1 h
  exact aout_still hk hh hq
theorem foot_same {o : Oper} {tm tm' : List Cell} (h : Same ro.mu ops o (ev tm') (ev tm)) (nx nx' : Nat) (hp hp' : Heap) : footAt o ⟨tm', nx', hp'⟩ = footAt o ⟨tm, nx, hp⟩ := by
  obtain ⟨dst, op, type, pos, after, guard⟩ := o
  cases op <;> first | rfl | skip
  case load t a => exact congrArg footOf (h a (by simp [Op.operands])).1
  case lookup t a k ok => exact congrArg footOf (h a (by simp [Op.operands])).1
  case call c =>
    simp only [footAt]
    split
    · rename_i a hl
      exact congrArg footS (h a (by simp [Op.operands, Call.operands, ← Array.mem_toList_iff, hl])).1
    · rfl
theorem aload_stay {d : Option Tmp} {t : TypeId} {a : AVal} {nx : Nat} {hp : Heap} {q : Out} (hr : (feeds ops d && !ro.mu.contains t) = false) (h : aload P ops ro d t a nx hp = some q) {hp' : Heap} (hs : Stay hp hp' (footOf a)) (nx' : Nat) : aload P ops ro d t a nx' hp' = some { q with nx := nx', hp := hp' } := by
  unfold aload at h ⊢
  split at h
  · rename_i id off
    rw [← hs id rfl]
    try simp only
    split at h
    · split at h
      · split at h
        · rename_i hc; cases h; rw [if_pos hc]; rfl
        · cases h
      · split at h
        · split at h
          · rename_i hf
            split at h
            · rename_i hn; cases h; simp only [hf, hn, if_true]
            · split at h
              · rename_i hc
                rw [hf, Bool.true_and] at hr
                rw [hr] at hc
                simp at hc
              · rename_i hn hc; cases h; simp only [hf, if_true]; rw [if_neg hn, if_neg hc]; rfl
          · rename_i hf; cases h; rw [if_neg hf]; rfl
        · cases h; rfl
        · cases h
      · cases h
    · cases h
  · obtain ⟨v, hv, rfl⟩ := Option.map_eq_some_iff.1 h
    simp only [hv]
    rfl
  · cases h
theorem alookup_stay {t : TypeId} {m k : AVal} {ok : Bool} {hp hp' : Heap} (hs : Stay hp hp' (footOf m)) : alookup P t m k ok hp' = alookup P t m k ok hp := by
  unfold alookup
  cases m with
  | map id => simp only [hs id rfl]
  | _ => rfl
/-- A reader tells the same if its variable stays. -/
theorem aout_read (hk : Kds kd call) {o : Oper} {tm : List Cell} {nx : Nat} {hp : Heap} {q : Out} (hr : rdr kd.ft ro.mu ops o = true) (h : aout P call ops ro o ⟨tm, nx, hp⟩ = some q) {hp' : Heap} (hs : Stay hp hp' (footAt o ⟨tm, nx, hp⟩)) (nx' : Nat) : aout P call ops ro o ⟨tm, nx', hp'⟩ = some { q with nx := nx', hp := hp' } := by
  unfold aout at h ⊢
  simp only at h ⊢
  split at h
  · obtain ⟨dst, op, type, pos, after, guard⟩ := o
    cases op <;> (try (cases hr; done))
    case load t a _ =>
      have hr' : (feeds ops dst && !ro.mu.contains t) = false := by
        have h1 : (!(feeds ops dst && !ro.mu.contains t)) = true := hr
        rw [Bool.not_eq_true'] at h1; exact h1
      exact aload_stay hr' h hs nx'
    case lookup t m k ok _ =>
      have h : (alookup P t (ev tm m).1 (ev tm k).1 ok hp).map (Out.val nx hp) = some q := h
      obtain ⟨v, hv, rfl⟩ := Option.map_eq_some_iff.1 h
      show (alookup P t (ev tm m).1 (ev tm k).1 ok hp').map (Out.val nx' hp') = _
      rw [alookup_stay hs, hv]
      rfl
    case call c _ =>
      obtain ⟨callee, args, ts⟩ := c
      have hr' : ftCall kd.ft ⟨callee, args, ts⟩ = true := hr
      unfold ftCall at hr'
      split at hr'
      · rename_i f a e1 e2
        simp only at e1 e2
        subst e1
        have hs' : Stay hp hp' (footS (ev tm a).1) := by
          have e3 : footAt ⟨dst, .call ⟨.value (.func f), args, ts⟩, type, pos, after, guard⟩ ⟨tm, nx, hp⟩ = footS (ev tm a).1 := by
            simp only [footAt, e2]
          rw [← e3]; exact hs
        have hs2 : Stay hp hp' (footS (argOf ro.mu a (ev tm a).1)) := by
          unfold argOf
          split
          · intro id e; cases e
          · exact hs'
        have e0 : (ev tm (.func f)).1 = .clo f [] [] := rfl
        simp only [aeff, acall, e0, e2, List.map_cons, List.map_nil, List.nil_append, List.append_nil] at h ⊢
        cases hc : call f [argOf ro.mu a (ev tm a).1] ro.lo nx hp with
        | none => rw [hc] at h; cases h
        | some r =>
          rw [hc] at h
          injection h with h; subst h
          have := hk.ft f _ _ _ _ _ hr' hc nx' hp' hs2
          rw [this]
      · cases hr'
  · cases h; rfl
  · cases h
theorem rdr_still (hk : Kds kd call) {o : Oper} (hr : rdr kd.ft ro.mu ops o = true) : effectful ro.mu kd.pure ops o = false := by
  obtain ⟨dst, op, type, pos, after, guard⟩ := o
  cases op <;> (try (cases hr; done))
  · have h1 : (!(feeds ops dst && !ro.mu.contains _)) = true := hr
    rw [Bool.not_eq_true'] at h1; exact h1
  · rfl
  · rename_i c
    obtain ⟨callee, args, ts⟩ := c
    have hr' : ftCall kd.ft ⟨callee, args, ts⟩ = true := hr
    unfold ftCall at hr'
    split at hr'
    · rename_i f a e1 e2
      simp only at e1
      subst e1
      show (!kd.pure f) = false
      rw [hk.ftp f hr']; rfl
    · cases hr'
/-- Two operations may change places. -/
def May (kd : Knd) (ro : Md) (ops : Array Oper) (a b : Oper) (s s1 s2 : St) : Prop :=
  (!(effectful ro.mu kd.pure ops a && heapy kd.vl ro.mu b) && !(heapy kd.vl ro.mu a && effectful ro.mu kd.pure ops b)) = true ∨
  (rdr kd.ft ro.mu ops a = true ∧ Stay s1.hp s2.hp (footAt a s)) ∨ (rdr kd.ft ro.mu ops b = true ∧ Stay s1.hp s.hp (footAt b s1))
theorem swap (hk : Kds kd call) {a b : Oper} (hsl : slotsOk ro.mu ops a b = true) {s s1 s2 : St} (h1 : astep P call ops ro a s = some s1) (h2 : astep P call ops ro b s1 = some s2) (hm : May kd ro ops a b s s1 s2) :
    ∃ s1', astep P call ops ro b s = some s1' ∧ astep P call ops ro a s1' = some s2 ∧ footAt b s1 = footAt b s ∧ footAt a s1' = footAt a s := by
  obtain ⟨tm, nx, hp⟩ := s
  simp only [slotsOk, Bool.and_eq_true] at hsl
  obtain ⟨⟨ha, hb⟩, hs⟩ := hsl
  have ha' := apartD_spec ha
  have hb' := apartD_spec hb
  rw [astep_out] at h1 h2
  obtain ⟨qa, hqa, rfl⟩ := Option.map_eq_some_iff.1 h1
  obtain ⟨qb, hqb, rfl⟩ := Option.map_eq_some_iff.1 h2
  have anb : ∀ t, a.dst = some t → t ∉ namesOf ops b := fun t e hm => ha' t e (List.mem_append_right _ hm)
  have bna : ∀ t, b.dst = some t → t ∉ namesOf ops a := fun t e hm => hb' t e (List.mem_append_right _ hm)
  have dd : ∀ t, a.dst = some t → b.dst ≠ some t := fun t e hm => ha' t e (List.mem_append_left _ (by simp [hm]))
  have src : ∀ t, srcOf ro.mu ops a = some t → srcOf ro.mu ops b ≠ some t := by
    intro t e1 e2
    rw [e1, e2] at hs
    simp at hs
  have sameB := same_put (ops := ops) (o := b) (q := qa) (tm := tm) anb fun t e => src t (aout_clr hqa t e).1
  have footB : footAt b (qa.put a.dst tm) = footAt b ⟨tm, nx, hp⟩ := foot_same sameB nx _ hp _
  rw [put_nx, aout_same (wanted_put anb) sameB] at hqb
  have fin : ∀ (qa' qb' : Out), qa'.v = qa.v → qa'.own = qa.own → qa'.clr = qa.clr → qb'.v = qb.v → qb'.own = qb.own → qb'.clr = qb.clr → qa'.nx = qb.nx → qa'.hp = qb.hp →
      aout P call ops ro b ⟨tm, nx, hp⟩ = some qb' → aout P call ops ro a ⟨tm, qb'.nx, qb'.hp⟩ = some qa' →
      ∃ s1', astep P call ops ro b ⟨tm, nx, hp⟩ = some s1' ∧ astep P call ops ro a s1' = some (qb.put b.dst (qa.put a.dst tm).tm) ∧ footAt b (qa.put a.dst tm) = footAt b ⟨tm, nx, hp⟩ ∧ footAt a s1' = footAt a ⟨tm, nx, hp⟩ := by
    intro qa' qb' e1 e2 e3 e4 e5 e6 e7 e8 g1 g2
    have sameA := same_put (ops := ops) (o := a) (q := qb') (tm := tm) bna fun t e e' => src t e' (aout_clr g1 t e).1
    refine ⟨qb'.put b.dst tm, by rw [astep_out, g1]; rfl, ?_, footB, foot_same sameA nx _ hp _⟩
    rw [astep_out, put_nx qb', aout_same (wanted_put bna) sameA, g2]
    simp only [Option.map_some, Option.some.injEq]
    rw [put_nx qa', put_nx qb]
    congr 1
    rw [put_comm (qa := qa) (qb := qb) dd (fun t e e' => anb t e (aout_clr hqb t e').2) (fun t e e' => bna t e (aout_clr hqa t e').2)]
    obtain ⟨v, o, c, n, p⟩ := qa; obtain ⟨v', o', c', n', p'⟩ := qa'
    obtain ⟨w, o1, c1, n1, p1⟩ := qb; obtain ⟨w', o1', c1', n1', p1'⟩ := qb'
    simp only at e1 e2 e3 e4 e5 e6
    subst e1 e2 e3 e4 e5 e6
    rfl
  rcases hm with hm | ⟨hr, hst⟩ | ⟨hr, hst⟩
  · simp only [Bool.and_eq_true, Bool.not_eq_true'] at hm
    obtain ⟨he1, he2⟩ := hm
    cases hea : effectful ro.mu kd.pure ops a with
    | false =>
      obtain ⟨e1, e2⟩ := aout_still hk hea hqa
      rw [e1, e2] at hqb
      cases hha : heapy kd.vl ro.mu a with
      | false =>
        obtain ⟨_, _, hl⟩ := aout_light hk hha hqa
        exact fin { qa with nx := qb.nx, hp := qb.hp } qb rfl rfl rfl rfl rfl rfl rfl rfl hqb (hl _ _)
      | true =>
        rw [hha] at he2
        simp only [Bool.true_and] at he2
        obtain ⟨e3, e4⟩ := aout_still hk he2 hqb
        exact fin qa qb rfl rfl rfl rfl rfl rfl (by rw [e1, e3]) (by rw [e2, e4]) hqb (by rw [e3, e4]; exact hqa)
    | true =>
      rw [hea] at he1
      simp only [Bool.true_and] at he1
      obtain ⟨e1, e2, hl⟩ := aout_light hk he1 hqb
      exact fin qa { qb with nx := nx, hp := hp } rfl rfl rfl rfl rfl rfl e1.symm e2.symm (hl _ _) hqa
  · obtain ⟨e1, e2⟩ := aout_still hk (rdr_still hk hr) hqa
    rw [e1, e2] at hqb
    have hst' : Stay hp qb.hp (footAt a ⟨tm, nx, hp⟩) := fun id e => by
      have := hst id e
      rw [show (qa.put a.dst tm).hp = qa.hp from rfl, e2] at this
      exact this
    exact fin { qa with nx := qb.nx, hp := qb.hp } qb rfl rfl rfl rfl rfl rfl rfl rfl hqb (aout_read hk hr hqa hst' _)
  · obtain ⟨e1, e2⟩ := aout_still hk (rdr_still hk hr) hqb
    have hst' : Stay (qa.put a.dst tm).hp hp (footAt b ⟨tm, (qa.put a.dst tm).nx, (qa.put a.dst tm).hp⟩) := fun id e => hst id (by rw [footB]; exact e)
    have := aout_read hk hr hqb hst' nx
    exact fin qa { qb with nx := nx, hp := hp } rfl rfl rfl rfl rfl rfl e1.symm e2.symm this hqa
end Go.Proofs.YtkpfkadjmijmlaaGreatDoor.M
