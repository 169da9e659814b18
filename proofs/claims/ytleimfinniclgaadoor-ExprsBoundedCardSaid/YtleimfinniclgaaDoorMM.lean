/- The machine is right: maps. -/
import Derived.Test.YtleimfinniclgaaDoorMP
import Derived.MapKept
import Derived.Laws.StructEq
namespace Go.Proofs.YtleimfinniclgaaDoor.M
open Go.RowKit Go.MapKept
set_option linter.unusedVariables false
set_option linter.unusedSimpArgs false
section
variable {P : Program} {C : Cx} {B : Nat} {F : Nat → Nat → Prop} {w0 : World} {hp : Heap} {tm : List Cell} {ct : Array Value}
def keyFit (d : TypeDesc) (k : AVal) : Prop := match d, k with
  | .int _, .int _ _ => True
  | .string, .str _ => True
  | .bool, .bool _ => True
  | _, _ => False
theorem akeq_spec {d : TypeDesc} {a b : AVal} {u v : Value} {q : Bool} (hu : RV C a u) (hv : RV C b v) (hd : (∃ k, d = .int k) ∨ d = .string ∨ d = .bool) (hda : keyFit d a) (h : akeq a b = some q) :
    Instr.sameNow d u v = some q ∧ (q = true → v = u) := by
  cases a <;> cases b <;> simp only [akeq] at h <;> try (cases h; done)
  · obtain rfl := hu.int_inv
    obtain rfl := hv.int_inv
    split at h
    · rename_i hk
      subst hk
      injection h with h; subst h
      rcases hd with ⟨k', rfl⟩ | rfl | rfl
      · exact ⟨by simp [Instr.sameNow], fun e => by simp at e; rw [e]⟩
      · exact hda.elim
      · exact hda.elim
    · cases h
  · obtain rfl := hu.bool_inv
    obtain rfl := hv.bool_inv
    injection h with h; subst h
    rcases hd with ⟨k', rfl⟩ | rfl | rfl
    · exact hda.elim
    · exact hda.elim
    · exact ⟨by simp [Instr.sameNow], fun e => by simp at e; rw [e]⟩
  · obtain rfl := hu.str_inv
    obtain rfl := hv.str_inv
    injection h with h; subst h
    rcases hd with ⟨k', rfl⟩ | rfl | rfl
    · exact hda.elim
    · refine ⟨by simp only [Instr.sameNow]; rw [beq_toListBytes], fun e => ?_⟩
      rw [← beq_toListBytes] at e
      have := (bytes_beq _ _).1 e
      rw [this]
    · exact hda.elim
theorem find_rel {d : TypeDesc} {k : AVal} {kv : Value} (hk : RV C k kv) (hd : (∃ k, d = .int k) ∨ d = .string ∨ d = .bool) (hda : keyFit d k) :
    ∀ (es : List (AVal × AVal)) (l : List MapEntry) (i : Nat), l.length = es.length → (∀ (j : Nat) p, es[j]? = some p → ∃ x, l[j]? = some x ∧ RV C p.1 x.key ∧ RV C p.2 x.val) → ∀ r, afind k es i = some r →
      match r with
      | none => Instr.findNow d kv l i = some none
      | some (j, v) => ∃ x, Instr.findNow d kv l i = some (some (j, x.val)) ∧ i ≤ j ∧ l[j - i]? = some x ∧ RV C v x.val ∧ x.key = kv := by
  intro es
  induction es with
  | nil =>
    intro l i hl _ r h
    simp at hl; subst hl
    cases h
    rfl
  | cons p es ih =>
    intro l i hl hr r h
    obtain ⟨pk, pv⟩ := p
    cases l with
    | nil => simp at hl
    | cons x l =>
      obtain ⟨x', hx', h1, h2⟩ := hr 0 _ rfl
      simp at hx'; subst hx'
      simp only [afind] at h
      split at h
      · rename_i he
        cases h
        obtain ⟨s1, s2⟩ := akeq_spec hk h1 hd hda he
        exact ⟨x, by simp [Instr.findNow, s1], Nat.le_refl _, by simp, h2, s2 rfl⟩
      · rename_i he
        obtain ⟨s1, _⟩ := akeq_spec hk h1 hd hda he
        have := ih l (i + 1) (by simpa using hl) (fun j p hj => by
          obtain ⟨x', q1, q2, q3⟩ := hr (j + 1) p (by simpa using hj)
          exact ⟨x', by simpa using q1, q2, q3⟩) r h
        cases r with
        | none => simp only at this ⊢; simp [Instr.findNow, s1, this]
        | some q =>
          obtain ⟨j, v⟩ := q
          obtain ⟨x', q1, q2, q3, q4⟩ := this
          refine ⟨x', by simp [Instr.findNow, s1, q1], by omega, ?_, q4⟩
          rw [show j - i = (j - (i + 1)) + 1 by omega, List.getElem?_cons_succ]
          exact q3
      · cases h
theorem RV.mapv_inv {id : Nat} {u : Value} (h : RV C (.map id) u) : u = .map (some (C.ι id)) ∧ id < C.nx := by cases h; exact ⟨rfl, by assumption⟩
theorem RV.nilmv_inv {u : Value} (h : RV C .nilm u) : u = .map none := by cases h; rfl
theorem akey_spec {kt : TypeId} {k : AVal} {kv : Value} (hk : RV C k kv) (h : akey P kt k = true) : ∃ d, P.underlying kt = some d ∧ ((∃ k, d = .int k) ∨ d = .string ∨ d = .bool) ∧ keyFit d k ∧ ∀ (e : Bool) (n : Nat) (w : World), (Instr.checkKey e (n + 1) kt kv).run P w = .ok () w := by
  unfold akey at h
  split at h
  · rename_i hd
    obtain rfl := hk.int_inv
    exact ⟨_, hd, .inl ⟨_, rfl⟩, trivial, fun e n w => by unfold Instr.checkKey; simp [run_underlying hd]⟩
  · rename_i hd
    obtain rfl := hk.str_inv
    exact ⟨_, hd, .inr (.inl rfl), trivial, fun e n w => by unfold Instr.checkKey; simp [run_underlying hd]⟩
  · rename_i hd
    obtain rfl := hk.bool_inv
    exact ⟨_, hd, .inr (.inr rfl), trivial, fun e n w => by unfold Instr.checkKey; simp [run_underlying hd]⟩
  · cases h
theorem aok_rv {ok b : Bool} {v : AVal} {u : Value} (h : RV C v u) : RV C (aok ok b v) (if ok = true then .tuple #[u, .bool b] else u) := by
  unfold aok
  cases ok with
  | false => exact h
  | true =>
    simp only [if_true]
    have := RV.tup (C := C) [v, .bool b] [u, .bool b] rfl (fun i a x ha hx => by
      rcases i with _ | _ | i
      · simp at ha hx; subst ha hx; exact h
      · simp at ha hx; subst ha hx; exact .bool b
      · simp at ha)
    simpa using this
theorem sound_lookup (h : HOk C B F w0 hp) (t : TypeId) {m k : AVal} {mv kv : Value} (hm : RV C m mv) (hk : RV C k kv) (ok : Bool) {r : AVal} (hr : alookup P t m k ok hp = some r) : ∃ z, (Instr.lookup t mv kv ok).run P C.w = .ok z C.w ∧ RV C r z := by
  unfold alookup at hr
  split at hr
  rotate_left
  · cases hr
  rename_i kt et hu
  split at hr
  rotate_left
  · cases hr
  rename_i hkey
  obtain ⟨d, hd, hd1, hda, hck⟩ := akey_spec hk hkey
  have hzero : ∀ {r : AVal}, (azero P et).map (aok ok false) = some r → ∃ z, (zeroValue et).run P C.w = .ok z C.w ∧ RV C r (if ok = true then .tuple #[z, .bool false] else z) := by
    intro r hz
    obtain ⟨a, ha, rfl⟩ := Option.map_eq_some_iff.1 hz
    unfold azero at ha
    obtain ⟨z, hz', rfl⟩ := Option.map_eq_some_iff.1 ha
    obtain ⟨i, hi, hiz⟩ := Option.bind_eq_some_iff.1 hz'
    exact ⟨z, by simp [zeroValue, typeInfo, hi, hiz], aok_rv (.ofVal z)⟩
  split at hr
  · obtain rfl := hm.nilmv_inv
    obtain ⟨z, hz, hrv⟩ := hzero hr
    refine ⟨_, ?_, hrv⟩
    have hf : (Instr.findKey kt kv []).run P C.w = .ok none C.w := MapKept.run_findKey hd rfl
    simp [Instr.lookup, run_underlying hu, hck, hf, hz]
  · rename_i id
    obtain ⟨rfl, hid⟩ := hm.mapv_inv
    split at hr
    rotate_left
    · cases hr
    rename_i es hg
    obtain ⟨ents, clk, hb, hl, hrel⟩ := h.mapb id es hg
    have hfr := find_rel hk hd1 hda es ents.toList 0 (by simpa using hl) (fun j p hj => by
      obtain ⟨x, q1, q2, q3⟩ := hrel j p hj
      exact ⟨x, by simpa using q1, q2, q3⟩)
    have hobj : (getObj (C.ι id)).run P C.w = .ok (.map ents clk) C.w := MapKept.run_getObj_map hb
    split at hr
    · rename_i j v he
      cases hr
      obtain ⟨x, q1, _, _, q4, _⟩ := hfr _ he
      have hf : (Instr.findKey kt kv ents.toList).run P C.w = .ok (some (j, x.val)) C.w := MapKept.run_findKey hd q1
      exact ⟨if ok = true then .tuple #[x.val, .bool true] else x.val, by simp [Instr.lookup, run_underlying hu, hobj, hck, hf], aok_rv q4⟩
    · rename_i he
      obtain ⟨z, hz, hrv⟩ := hzero hr
      have q1 := hfr _ he
      have hf : (Instr.findKey kt kv ents.toList).run P C.w = .ok none C.w := MapKept.run_findKey hd q1
      exact ⟨_, by simp [Instr.lookup, run_underlying hu, hobj, hck, hf, hz], hrv⟩
    · cases hr
  · cases hr
def Cx.setMap (C : Cx) (r : Nat) (ents : Array MapEntry) (clk : Nat) : Cx := { C with w := { C.w with heap := C.w.heap.setIfInBounds r (.map ents clk) } }
theorem WRel.setMap (h : WRel C B F w0 hp tm ct) {id : Nat} {es es' : List (AVal × AVal)} (hid : hget hp id = some (.map es)) (ents' : Array MapEntry) (clk' : Nat) (hl : ents'.size = es'.length)
    (hrel : ∀ (i : Nat) (p : AVal × AVal), es'[i]? = some p → ∃ x, ents'[i]? = some x ∧ RV C p.1 x.key ∧ RV C p.2 x.val) : C.Le (C.setMap (C.ι id) ents' clk') ∧ WRel (C.setMap (C.ι id) ents' clk') B F w0 (hset hp id (.map es')) tm ct := by
  obtain ⟨ents, clk, hb, _, _⟩ := h.heap.mapb id es hid
  have hs : (hget hp id).isSome = true := by rw [hid]; rfl
  obtain ⟨g1, g2⟩ := heap_set (o' := .map ents' clk') hb
  obtain ⟨o1, o2, o3⟩ := h.heap.out id hs
  have hother : ∀ k, k ≠ C.ι id → (C.setMap (C.ι id) ents' clk').w.heap[k]? = C.w.heap[k]? := g2
  have hcell : ∀ b o, b ≠ C.ι id → (C.setMap (C.ι id) ents' clk').w.cell? ⟨b, o, none⟩ = C.w.cell? ⟨b, o, none⟩ := fun b o hk => World.cell?_of_block (hother b hk)
  have hfroz : ∀ b o, b ≠ C.ι id → (C.setMap (C.ι id) ents' clk').w.frozen? ⟨b, o, none⟩ = C.w.frozen? ⟨b, o, none⟩ := fun b o hk => World.frozen?_of_block (hother b hk)
  have hno : ∀ b o u, C.w.cell? ⟨b, o, none⟩ = some u → b ≠ C.ι id := fun b o u hu e => by
    subst e
    simp [World.cell?, hb] at hu
  have le : C.Le (C.setMap (C.ι id) ents' clk') := ⟨Nat.le_refl _, fun _ _ => rfl, fun _ _ h => h, fun b o hI => hcell b o (fun e => (o3 o).1 (e ▸ hI)), fun b o u hu => ⟨u, (hcell b o (hno b o u hu)).trans hu⟩⟩
  have hget' : ∀ j, hget (hset hp id (.map es')) j = if j = id then some (.map es') else hget hp j := fun j => by rw [hget_hset]; simp [hs]
  have hsome : ∀ j, (hget (hset hp id (.map es')) j).isSome = (hget hp j).isSome := fun j => by
    rw [hget']
    split
    · rename_i e; subst e; rw [hs]; rfl
    · rfl
  have hne : ∀ j, j ≠ id → (hget hp j).isSome = true → C.ι j ≠ C.ι id := fun j hj hjs e => hj (h.heap.inj j id hjs hs e)
  have hown : ∀ k v cv, Owned (C.setMap (C.ι id) ents' clk') (hset hp id (.map es')) tm ct k v cv → Owned C hp tm ct k v cv := by
    intro k v cv ho
    obtain ⟨i, t⟩ := k
    cases i with
    | zero => exact ho
    | succ j =>
      obtain ⟨cs', vs', ty', h1, h2, h3, h4⟩ := ho
      rw [hget'] at h1
      split at h1
      · cases h1
      · rename_i e
        have hj : (hget hp j).isSome = true := by rw [h1]; rfl
        have h3' : (C.setMap (C.ι id) ents' clk').w.heap[C.ι j]? = some (.cells vs' ty' (0, 0)) := h3
        rw [hother _ (hne j e hj)] at h3'
        exact ⟨cs', vs', ty', h1, h2, h3', h4⟩
  refine ⟨le, ⟨⟨h.heap.below.os, h.heap.below.tape, h.heap.below.output, ?_, fun k hk => ?_⟩, h.heap.base, fun j hj => h.heap.ids j (by rw [← hsome]; exact hj), fun j cs hj => ?_, fun i j a b => h.heap.inj i j (by rw [← hsome]; exact a) (by rw [← hsome]; exact b), fun i a => ?_, fun b o hI => ?_, fun b o hF => ?_, fun j ess hj => ?_⟩, h.size, fun t c ht => ?_, fun k v cv hk => ?_, fun k1 k2 v1 c1 v2 c2 h1 h2 => h.sep k1 k2 v1 c1 v2 c2 (hown _ _ _ h1) (hown _ _ _ h2)⟩
  · show w0.heap.size ≤ (C.w.heap.setIfInBounds _ _).size
    rw [Array.size_setIfInBounds]; exact h.heap.below.size
  · exact (hother k (by omega)).trans (h.heap.below.block k hk)
  · rw [hget'] at hj
    split at hj
    · cases hj
    · rename_i e
      have hjs : (hget hp j).isSome = true := by rw [hj]; rfl
      obtain ⟨vs', ty', q1, q2, q3⟩ := h.heap.blk j cs hj
      refine ⟨vs', ty', (hother _ (hne j e hjs)).trans q1, q2, fun i c hi => ?_⟩
      obtain ⟨r1, v, r2, r3⟩ := q3 i c hi
      exact ⟨r1, v, r2, r3.mono le⟩
  · obtain ⟨q1, q2, q3⟩ := h.heap.out i (by rw [← hsome]; exact a)
    refine ⟨q1, ?_, q3⟩
    show _ < (C.w.heap.setIfInBounds _ _).size
    rw [Array.size_setIfInBounds]; exact q2
  · obtain ⟨u, hu⟩ := h.heap.imm b o hI
    exact ⟨u, (hcell b o (hno b o u hu)).trans hu⟩
  · obtain ⟨⟨u, hu⟩, q0, q⟩ := h.heap.far b o hF
    exact ⟨⟨u, (hcell b o (hno b o u hu)).trans hu⟩, (hfroz b o (hno b o u hu)).trans q0, q⟩
  · rw [hget'] at hj
    split at hj
    · rename_i e
      subst e
      cases hj
      refine ⟨ents', clk', g1, hl, fun i p hp => ?_⟩
      obtain ⟨x, q1, q2, q3⟩ := hrel i p hp
      exact ⟨x, q1, q2.mono le, q3.mono le⟩
    · rename_i e
      have hjs : (hget hp j).isSome = true := by rw [hj]; rfl
      exact (h.heap.mapb j ess hj).mono le (hother _ (hne j e hjs))
  · obtain ⟨v, q1, q2⟩ := h.tmp t c ht
    exact ⟨v, q1, q2.mono le⟩
  · have q := h.own k v cv (hown k v cv hk)
    refine ⟨q.form, fun b o t => ?_⟩
    obtain ⟨a1, a2, a3, a4, ⟨u, a5⟩, a6⟩ := q.cells b o t
    have hb' := hno b o u a5
    exact ⟨a1, a2, a3, fun j hj => a4 j (by rw [← hsome]; exact hj), ⟨u, (hcell b o hb').trans a5⟩, (hfroz b o hb').trans a6⟩
def Cx.newMap (C : Cx) : Cx := { ι := fun i => if i = C.nx then C.w.heap.size else C.ι i, I := C.I, nx := C.nx + 1, w := C.w.alloc (.map #[] 0) }
theorem WRel.newMap (h : WRel C B F w0 hp tm ct) : C.Le C.newMap ∧ WRel C.newMap B F w0 ((C.nx, .map []) :: hp) tm ct ∧ RV C.newMap (.map C.nx) (.map (some C.w.heap.size)) := by
  have g : Grow C C.newMap := ⟨below_alloc' _ _, Nat.le_succ _, fun i hi => by simp [Cx.newMap]; omega, fun _ _ h => h, fun _ _ h => .inl h, fun b o hI hb => by
    obtain ⟨u, hu⟩ := h.heap.imm b o hI
    have := cell_lt hu
    omega⟩
  have le := h.heap.le g
  have hD := h.grow g
  have hB : B ≤ C.w.heap.size := Nat.le_trans h.heap.base h.heap.below.size
  have hιn : C.newMap.ι C.nx = C.w.heap.size := by simp [Cx.newMap]
  have hιo : ∀ i, (hget hp i).isSome = true → C.newMap.ι i = C.ι i := fun i hi => g.map i (h.heap.ids i hi)
  have hno : hget hp C.nx = none := by
    cases e : hget hp C.nx with
    | none => rfl
    | some b => exact absurd (h.heap.ids C.nx (by rw [e]; rfl)) (Nat.lt_irrefl _)
  have hgn : hget ((C.nx, ABlk.map []) :: hp) C.nx = some (.map []) := by simp [hget]
  have hgo : ∀ i, i ≠ C.nx → hget ((C.nx, ABlk.map []) :: hp) i = hget hp i := fun i hi => by simp [hget, hi]
  have hown : ∀ k v cv, Owned C.newMap ((C.nx, .map []) :: hp) tm ct k v cv → Owned C.newMap hp tm ct k v cv := by
    intro k v cv ho
    obtain ⟨i, t⟩ := k
    cases i with
    | zero => exact ho
    | succ id =>
      obtain ⟨cs', vs', ty', h1, h2⟩ := ho
      by_cases e : id = C.nx
      · subst e; rw [hgn] at h1; cases h1
      · rw [hgo id e] at h1; exact ⟨cs', vs', ty', h1, h2⟩
  refine ⟨le, ⟨⟨hD.heap.below, hD.heap.base, fun i hi => ?_, fun id cs' hg' => ?_, fun i j hi hj e => ?_, fun i hi => ?_, hD.heap.imm, hD.heap.far, fun id es hg => ?_⟩, h.size, hD.tmp, fun k v cv ho => ?_, fun k1 k2 v1 c1 v2 c2 h1 h2 => hD.sep k1 k2 v1 c1 v2 c2 (hown _ _ _ h1) (hown _ _ _ h2)⟩, ?_⟩
  · by_cases e : i = C.nx
    · subst e; exact Nat.lt_succ_self _
    · rw [hgo i e] at hi; exact Nat.lt_succ_of_lt (h.heap.ids i hi)
  · by_cases e : id = C.nx
    · subst e; rw [hgn] at hg'; cases hg'
    · rw [hgo id e] at hg'; exact hD.heap.blk id cs' hg'
  · by_cases ei : i = C.nx
    · by_cases ej : j = C.nx
      · rw [ei, ej]
      · rw [hgo j ej] at hj
        rw [ei, hιn, hιo j hj] at e
        have := (h.heap.out j hj).2.1
        omega
    · rw [hgo i ei] at hi
      by_cases ej : j = C.nx
      · rw [ej, hιn, hιo i hi] at e
        have := (h.heap.out i hi).2.1
        omega
      · rw [hgo j ej] at hj
        exact hD.heap.inj i j hi hj e
  · by_cases e : i = C.nx
    · subst e
      rw [hιn]
      refine ⟨hB, by simp [Cx.newMap], fun o => ⟨fun hI => ?_, fun hF => ?_⟩⟩
      · obtain ⟨u, hu⟩ := h.heap.imm _ _ hI
        exact absurd (cell_lt hu) (Nat.lt_irrefl _)
      · obtain ⟨⟨u, hu⟩, _⟩ := h.heap.far _ _ hF
        exact absurd (cell_lt hu) (Nat.lt_irrefl _)
    · rw [hgo i e] at hi; exact hD.heap.out i hi
  · by_cases e : id = C.nx
    · subst e
      rw [hgn] at hg; cases hg
      exact ⟨#[], 0, by rw [hιn]; exact alloc_at _ _, rfl, fun i p hp => by simp at hp⟩
    · rw [hgo id e] at hg; exact hD.heap.mapb id es hg
  · have q := hD.own k v cv (hown k v cv ho)
    refine ⟨q.form, fun b o t => ?_⟩
    obtain ⟨a1, a2, a3, a4, a5, a6⟩ := q.cells b o t
    refine ⟨a1, a2, a3, fun id hid => ?_, a5, a6⟩
    by_cases e : id = C.nx
    · subst e
      rw [hιn]
      have hc : Owned C hp tm ct k v cv := (hown k v cv ho).back h.heap g
      obtain ⟨_, _, _, _, ⟨u, hu⟩, _⟩ := (h.own k v cv hc).cells b o t
      have := cell_lt hu
      omega
    · rw [hgo id e] at hid; exact a4 id hid
  · have := RV.map (C := C.newMap) C.nx (Nat.lt_succ_self _)
    rwa [hιn] at this
theorem sameBits_key {d : TypeDesc} {k : AVal} {kv : Value} (hk : RV C k kv) (h : keyFit d k) : Instr.sameBits 10000 kv kv = true := by
  unfold keyFit at h
  split at h
  · obtain rfl := hk.int_inv; simp [Instr.sameBits]
  · obtain rfl := hk.str_inv; simp only [Instr.sameBits]; exact (bytes_beq _ _).2 rfl
  · obtain rfl := hk.bool_inv; simp [Instr.sameBits]
  · exact h.elim
theorem sound_mapset (h : WRel C B F w0 hp tm ct) (lo : Nat) (t : TypeId) {m k v : AVal} {mv kv vv : Value} (hm : RV C m mv) (hk : RV C k kv) (hv : RV C v vv) {hp' : Heap} (hr : amapset P lo t m k v hp = some hp') :
    ∃ D : Cx, (Instr.mapUpdate t mv kv vv).run P C.w = .ok () D.w ∧ C.Le D ∧ D.nx = C.nx ∧ WRel D B F w0 hp' tm ct := by
  unfold amapset at hr
  split at hr
  rotate_left
  · cases hr
  rename_i kt et hu
  split at hr
  rotate_left
  · cases hr
  rename_i hkey
  obtain ⟨d, hd, hd1, hda, hck⟩ := akey_spec hk hkey
  split at hr
  rotate_left
  · cases hr
  rename_i id
  obtain ⟨rfl, hid⟩ := hm.mapv_inv
  split at hr
  rotate_left
  · cases hr
  rename_i es hg
  obtain ⟨ents, clk, hb, hl, hrel⟩ := h.heap.mapb id es hg
  have hfr := find_rel hk hd1 hda es ents.toList 0 (by simpa using hl) (fun j p hj => by
    obtain ⟨x, q1, q2, q3⟩ := hrel j p hj
    exact ⟨x, by simpa using q1, q2, q3⟩)
  have hobj : (getObj (C.ι id)).run P C.w = .ok (.map ents clk) C.w := MapKept.run_getObj_map hb
  have hset : ∀ o, (setObj (C.ι id) o).run P C.w = .ok () { C.w with heap := C.w.heap.setIfInBounds (C.ι id) o } := fun o => MapKept.run_setObj_map o hb
  split at hr
  rotate_left
  · cases hr
  split at hr
  · rename_i j v' he
    cases hr
    obtain ⟨x, q1, _, q3, _, q5⟩ := hfr _ he
    have hf : (Instr.findKey kt kv ents.toList).run P C.w = .ok (some (j, x.val)) C.w := MapKept.run_findKey hd q1
    have hx : ents[j]? = some x := by simpa using q3
    obtain ⟨le, hW⟩ := h.setMap hg (ents.modify j fun e => { e with key := kv, val := vv }) clk (by simpa using hl) (es' := es.set j (k, v)) (fun i p hp => by
      rw [List.getElem?_set] at hp
      rw [Array.getElem?_modify]
      by_cases e : j = i
      · subst e
        rw [if_pos rfl] at hp
        split at hp
        · cases hp
          rw [if_pos rfl, hx]
          exact ⟨_, rfl, hk, hv⟩
        · cases hp
      · rw [if_neg e] at hp
        rw [if_neg e]
        exact hrel i p hp)
    refine ⟨_, ?_, le, rfl, hW⟩
    simp [Instr.mapUpdate, run_underlying hu, hobj, hck, hf, hx, q5, Instr.keyThatStays, sameBits_key hk hda, hset, Cx.setMap]
  · rename_i he
    cases hr
    have q1 := hfr _ he
    have hf : (Instr.findKey kt kv ents.toList).run P C.w = .ok none C.w := MapKept.run_findKey hd q1
    obtain ⟨le, hW⟩ := h.setMap hg (ents.push { key := kv, val := vv, born := clk }) (clk + 1) (by simpa using hl) (es' := es ++ [(k, v)]) (fun i p hp => by
      rcases Nat.lt_or_ge i es.length with hlt | hge
      · rw [List.getElem?_append_left hlt] at hp
        obtain ⟨x, q1, q2, q3⟩ := hrel i p hp
        exact ⟨x, by rw [Array.getElem?_push, if_neg (by omega)]; exact q1, q2, q3⟩
      · rw [List.getElem?_append_right hge] at hp
        have := (List.getElem?_eq_some_iff.1 hp).1
        simp at this
        rw [show i - es.length = 0 by omega] at hp
        simp at hp; subst hp
        exact ⟨_, by rw [Array.getElem?_push, if_pos (by omega)], hk, hv⟩)
    refine ⟨_, ?_, le, rfl, hW⟩
    simp [Instr.mapUpdate, run_underlying hu, hobj, hck, hf, hset, Cx.setMap]
  · cases hr
end
end Go.Proofs.YtleimfinniclgaaDoor.M
