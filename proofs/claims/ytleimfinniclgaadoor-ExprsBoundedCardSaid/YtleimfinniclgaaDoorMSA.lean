/- Two new variables change places. -/
import Derived.Test.YtleimfinniclgaaDoorMR
namespace Go.Proofs.YtleimfinniclgaaDoor.M
open Go Go.RowKit
set_option linter.unusedVariables false
set_option linter.unusedSimpArgs false
def bIds (n : Nat) : ABlk → Prop
  | .cells cs => ∀ c ∈ cs, c.1.idsLt n = true
  | .map es => ∀ p ∈ es, p.1.idsLt n = true ∧ p.2.idsLt n = true
def WF (n : Nat) (tm : List Cell) (hp : Heap) : Prop := (∀ (t : Nat) (c : Cell), tm[t]? = some c → c.1.idsLt n = true) ∧ ∀ id b, hget hp id = some b → id < n ∧ bIds n b
/-- The later state is the one that the text's order comes to. -/
def Sw (n : Nat) (s1 s2 : St) : Prop := ∃ (a b : Nat) (zs : List Cell) (tm : List Cell) (hp : Heap), a ≠ b ∧ WF n tm hp ∧ (∀ c ∈ zs, c.1.idsLt n = true) ∧
  s1 = ⟨(tm.set b (.ptr n 0, false)).set a (.ptr (n + 1) 0, false), n + 2, (n + 1, .cells zs) :: (n, .cells zs) :: hp⟩ ∧
  s2 = ⟨(tm.set a (.ptr n 0, false)).set b (.ptr (n + 1) 0, false), n + 2, (n + 1, .cells zs) :: (n, .cells zs) :: hp⟩
theorem idsLts_all {n : Nat} : ∀ {l : List AVal}, idsLts n l = true ↔ ∀ v ∈ l, v.idsLt n = true
  | [] => by simp [idsLts]
  | v :: r => by simp [idsLts, idsLts_all (l := r)]
theorem flat_ids {n : Nat} {v : AVal} (h : ∀ u ∈ v.flat, u.idsLt n = true) : v.idsLt n = true := by
  cases v with
  | agg cs => simp only [AVal.idsLt]; exact idsLts_all.2 h
  | _ => exact h _ (by simp [AVal.flat])
theorem ids_flat {n : Nat} {v : AVal} (h : v.idsLt n = true) : ∀ u ∈ v.flat, u.idsLt n = true := by
  cases v with
  | agg cs => simp only [AVal.idsLt] at h; exact idsLts_all.1 h
  | _ => intro u hu; simp [AVal.flat] at hu; subst hu; exact h
theorem flats_ids {n : Nat} {l : List AVal} (h : ∀ u ∈ flats l, u.idsLt n = true) : ∀ v ∈ l, v.idsLt n = true := fun v hv => flat_ids fun u hu => h u (List.mem_flatMap.2 ⟨v, hv, hu⟩)
theorem ids_flats {n : Nat} {l : List AVal} (h : ∀ v ∈ l, v.idsLt n = true) : ∀ u ∈ flats l, u.idsLt n = true := fun u hu => by
  obtain ⟨v, hv, hu⟩ := List.mem_flatMap.1 hu
  exact ids_flat (h v hv) u hu
theorem mem_at {α : Type} {l : List α} {P : α → Prop} (h : ∀ (i : Nat) a, l[i]? = some a → P a) : ∀ a ∈ l, P a := fun a ha => by
  obtain ⟨i, hi⟩ := List.getElem?_of_mem ha
  exact h i a hi
theorem len_at {α β : Type} {l : List α} {m : List β} (h : m.length = l.length) {i : Nat} {a : α} (ha : l[i]? = some a) : ∃ b, m[i]? = some b := by
  have := (List.getElem?_eq_some_iff.1 ha).1
  exact ⟨m[i]'(by omega), List.getElem?_eq_getElem (by omega)⟩
theorem RV.ids {C : Cx} {v : AVal} {x : Value} (h : RV C v x) : v.idsLt C.nx = true := by
  induction h with
  | agg cs vs hl h1 h ih =>
    simp only [AVal.idsLt]
    exact idsLts_all.2 (mem_at fun i a ha => by obtain ⟨b, hb⟩ := len_at hl ha; exact ih i a b ha hb)
  | lst xs A c sz cu hc hz hs h1 hm h ih =>
    simp only [AVal.idsLt]
    exact idsLts_all.2 (flats_ids (mem_at fun i a ha => ih i a ha))
  | tup cs vs hl h ih =>
    simp only [AVal.idsLt]
    exact idsLts_all.2 (mem_at fun i a ha => by obtain ⟨b, hb⟩ := len_at hl ha; exact ih i a b ha hb)
  | ptr id off hid => simp only [AVal.idsLt]; exact decide_eq_true hid
  | pel e off b o cu h1 hm h ih => simp only [AVal.idsLt]; exact flat_ids (mem_at fun i a ha => ih i a ha)
  | map id hid => simp only [AVal.idsLt]; exact decide_eq_true hid
  | sl id off len sz c ag hid hc hx => simp only [AVal.idsLt]; exact decide_eq_true hid
  | clo f fs cs fv cv hf hl h h' ih ih' =>
    simp only [AVal.idsLt, Bool.and_eq_true]
    exact ⟨idsLts_all.2 (mem_at fun i a ha => by obtain ⟨b, hb⟩ := len_at hf ha; exact ih i a b ha hb), idsLts_all.2 (mem_at fun i a ha => by obtain ⟨b, hb⟩ := len_at hl ha; exact ih' i a b ha hb)⟩
  | _ => simp only [AVal.idsLt]
theorem RV.swp {C D : Cx} {n : Nat} (hι : ∀ i, i < n → D.ι i = C.ι i) (hI : D.I = C.I) (hw : D.w = C.w) (hn : n ≤ D.nx) {v : AVal} {x : Value} (h : RV C v x) : v.idsLt n = true → RV D v x := by
  induction h with
  | int k n => exact fun _ => .int k n
  | bool b => exact fun _ => .bool b
  | str s => exact fun _ => .str s
  | agg cs vs hl h1 h ih =>
    intro hv
    simp only [AVal.idsLt] at hv
    exact .agg cs vs hl h1 fun i a v ha hv' => ih i a v ha hv' (idsLts_all.1 hv a (List.mem_of_getElem? ha))
  | lst xs A c sz cu hc hz hs h1 hm h ih =>
    intro hv
    simp only [AVal.idsLt] at hv
    refine .lst xs A c sz cu hc hz hs h1 (fun i u hu => ?_) fun i u hu => ih i u hu (ids_flats (idsLts_all.1 hv) u (List.mem_of_getElem? hu))
    rw [hI, hw]; exact hm i u hu
  | tup cs vs hl h ih =>
    intro hv
    simp only [AVal.idsLt] at hv
    exact .tup cs vs hl fun i a v ha hv' => ih i a v ha hv' (idsLts_all.1 hv a (List.mem_of_getElem? ha))
  | ptr id off hid =>
    intro hv
    simp only [AVal.idsLt, decide_eq_true_eq] at hv
    rw [← hι id hv]; exact .ptr id off (by omega)
  | pel e off b o cu h1 hm h ih =>
    intro hv
    simp only [AVal.idsLt] at hv
    refine .pel e off b o cu h1 (fun i u hu => ?_) fun i u hu => ih i u hu (ids_flat hv u (List.mem_of_getElem? hu))
    rw [hI, hw]; exact hm i u hu
  | map id hid =>
    intro hv
    simp only [AVal.idsLt, decide_eq_true_eq] at hv
    rw [← hι id hv]; exact .map id (by omega)
  | sl id off len sz c ag hid hc hx =>
    intro hv
    simp only [AVal.idsLt, decide_eq_true_eq] at hv
    rw [← hι id hv]
    refine .sl id off len sz c ag (by omega) hc fun o ho => ?_
    rw [hι id hv, hw]; exact hx o ho
  | clo f fs cs fv cv hf hl h h' ih ih' =>
    intro hv
    simp only [AVal.idsLt, Bool.and_eq_true] at hv
    exact .clo f fs cs fv cv hf hl (fun i a v ha hv' => ih i a v ha hv' (idsLts_all.1 hv.1 a (List.mem_of_getElem? ha))) fun i a v ha hv' => ih' i a v ha hv' (idsLts_all.1 hv.2 a (List.mem_of_getElem? ha))
  | nilp => exact fun _ => .nilp
  | nilf => exact fun _ => .nilf
  | nilm => exact fun _ => .nilm
  | nils => exact fun _ => .nils
  | bad v => exact fun _ => .bad v
theorem WRel.wf {C : Cx} {B : Nat} {F : Nat → Nat → Prop} {w0 : World} {hp : Heap} {tm : List Cell} {ct : Array Value} (h : WRel C B F w0 hp tm ct) : WF C.nx tm hp := by
  refine ⟨fun t c hc => ?_, fun id b hb => ⟨h.heap.ids id (by rw [hb]; rfl), ?_⟩⟩
  · obtain ⟨v, _, hv⟩ := h.tmp t c hc
    exact hv.ids
  · cases b with
    | cells cs =>
      obtain ⟨vs, ty, _, _, h3⟩ := h.heap.blk id cs hb
      exact mem_at fun i c hc => by obtain ⟨_, v, _, hv⟩ := h3 i c hc; exact hv.ids
    | map es =>
      obtain ⟨ents, clk, _, _, h3⟩ := h.heap.mapb id es hb
      exact mem_at fun i p hp => by obtain ⟨x, _, q1, q2⟩ := h3 i p hp; exact ⟨q1.ids, q2.ids⟩
def sw2 (n i : Nat) : Nat := if i = n then n + 1 else if i = n + 1 then n else i
theorem sw2_sw2 (n i : Nat) : sw2 n (sw2 n i) = i := by unfold sw2; grind
theorem WRel.swap {C : Cx} {B : Nat} {F : Nat → Nat → Prop} {w0 : World} {n : Nat} {s1 s2 : St} {ct : Array Value} (h : WRel C B F w0 s1.hp s1.tm ct) (hn : C.nx = s1.nx) (hs : Sw n s1 s2) :
    ∃ D : Cx, D.w = C.w ∧ D.nx = s2.nx ∧ (∀ C0 : Cx, C0.nx ≤ n → C0.Le C → C0.Le D) ∧ WRel D B F w0 s2.hp s2.tm ct := by
  obtain ⟨a, b, zs, tm, hp, hab, hwf, hz, rfl, rfl⟩ := hs
  simp only at h hn ⊢
  have hn2 : n + 2 = C.nx := hn.symm
  refine ⟨{ C with ι := fun i => C.ι (sw2 n i) }, rfl, hn, fun C0 h0 le => ⟨le.nx, fun i hi => ?_, le.imm, le.cell, le.ex⟩, ?_⟩
  · have : sw2 n i = i := by unfold sw2; grind
    show C.ι (sw2 n i) = _
    rw [this]; exact le.map i hi
  generalize hH : ((n + 1, ABlk.cells zs) :: (n, ABlk.cells zs) :: hp : Heap) = H at *
  have key : ∀ id, hget H (sw2 n id) = hget H id := by
    intro id
    subst hH
    simp only [hget, sw2]
    by_cases e1 : id = n
    · subst e1; simp
    · by_cases e2 : id = n + 1
      · subst e2; simp
      · simp [e1, e2]
  have hids : ∀ id b, hget H id = some b → bIds n b := by
    intro id b hb
    subst hH
    simp only [hget] at hb
    split at hb
    · cases hb; exact hz
    · split at hb
      · cases hb; exact hz
      · exact (hwf.2 id b hb).2
  have rv : ∀ {v x}, RV C v x → v.idsLt n = true → RV { C with ι := fun i => C.ι (sw2 n i) } v x := fun hv hi => RV.swp (C := C) (D := { C with ι := fun i => C.ι (sw2 n i) }) (n := n) (fun i hi => by
    have : sw2 n i = i := by unfold sw2; grind
    show C.ι (sw2 n i) = _
    rw [this]) rfl rfl (by show n ≤ C.nx; omega) hv hi
  have hswi : ∀ {i j}, sw2 n i = sw2 n j → i = j := fun {i j} e => by have := congrArg (sw2 n) e; rwa [sw2_sw2, sw2_sw2] at this
  have hlt : ∀ t, ((tm.set a (.ptr n 0, false)).set b (.ptr (n + 1) 0, false))[t]? = if b = t then tm[t]?.map (fun _ => (.ptr (n + 1) 0, false)) else if a = t then tm[t]?.map (fun _ => (.ptr n 0, false)) else tm[t]? := by
    intro t
    simp only [List.getElem?_set, List.length_set]
    by_cases e1 : b = t
    · subst e1
      by_cases e : b < tm.length <;> simp [e]
    · by_cases e2 : a = t
      · subst e2
        by_cases e : a < tm.length <;> simp [e1, e]
      · simp [e1, e2]
  have hlt1 : ∀ t, ((tm.set b (.ptr n 0, false)).set a (.ptr (n + 1) 0, false))[t]? = if a = t then tm[t]?.map (fun _ => (.ptr (n + 1) 0, false)) else if b = t then tm[t]?.map (fun _ => (.ptr n 0, false)) else tm[t]? := by
    intro t
    simp only [List.getElem?_set, List.length_set]
    by_cases e1 : a = t
    · subst e1
      by_cases e : a < tm.length <;> simp [e]
    · by_cases e2 : b = t
      · subst e2
        by_cases e : b < tm.length <;> simp [e1, e]
      · simp [e1, e2]
  have own : ∀ k v cv, Owned { C with ι := fun i => C.ι (sw2 n i) } H ((tm.set a (.ptr n 0, false)).set b (.ptr (n + 1) 0, false)) ct k v cv → Owned C H ((tm.set b (.ptr n 0, false)).set a (.ptr (n + 1) 0, false)) ct (match k with | (0, t) => (0, t) | (id + 1, i) => (sw2 n id + 1, i)) v cv := by
    rintro ⟨k, i⟩ v cv ho
    cases k with
    | zero =>
      obtain ⟨h1, h2⟩ := ho
      refine ⟨?_, h2⟩
      rw [hlt] at h1
      rw [hlt1]
      split at h1
      · cases ht : tm[i]? with
        | none => rw [ht] at h1; cases h1
        | some c => rw [ht] at h1; cases h1
      · rename_i e1
        split at h1
        · cases ht : tm[i]? with
          | none => rw [ht] at h1; cases h1
          | some c => rw [ht] at h1; cases h1
        · rename_i e2
          rw [if_neg e2, if_neg e1]; exact h1
    | succ id =>
      obtain ⟨cs, vs, ty, h1, h2, h3, h4⟩ := ho
      exact ⟨cs, vs, ty, (key id).trans h1, h2, h3, h4⟩
  refine ⟨⟨h.heap.below, h.heap.base, h.heap.ids, fun id cs hg => ?_, fun i j hi hj e => ?_, fun i hi => ?_, h.heap.imm, h.heap.far, fun id es hg => ?_⟩, ?_, fun t c hc => ?_, fun k v cv ho => ?_, fun k1 k2 v1 c1 v2 c2 h1 h2 hne => ?_⟩
  · obtain ⟨vs, ty, q1, q2, q3⟩ := h.heap.blk (sw2 n id) cs ((key id).trans hg)
    refine ⟨vs, ty, q1, q2, fun i c hc => ?_⟩
    obtain ⟨r1, v, r2, r3⟩ := q3 i c hc
    exact ⟨r1, v, r2, rv r3 (hids id _ hg c (List.mem_of_getElem? hc))⟩
  · exact hswi (h.heap.inj _ _ (by rw [key]; exact hi) (by rw [key]; exact hj) e)
  · exact h.heap.out (sw2 n i) (by rw [key]; exact hi)
  · obtain ⟨ents, clk, q1, q2, q3⟩ := h.heap.mapb (sw2 n id) es ((key id).trans hg)
    refine ⟨ents, clk, q1, q2, fun i p hp => ?_⟩
    obtain ⟨x, r1, r2, r3⟩ := q3 i p hp
    have := hids id _ hg p (List.mem_of_getElem? hp)
    exact ⟨x, r1, rv r2 this.1, rv r3 this.2⟩
  · have := h.size
    simp at this ⊢
    exact this
  · have h1 := h.tmp t
    rw [hlt1] at h1
    rw [hlt] at hc
    by_cases e1 : b = t
    · rw [if_pos e1] at hc
      have e2 : a ≠ t := fun e => hab (e.trans e1.symm)
      rw [if_neg e2, if_pos e1] at h1
      cases ht : tm[t]? with
      | none => rw [ht] at hc; cases hc
      | some c0 =>
        rw [ht] at hc h1
        cases hc
        obtain ⟨v, q1, q2⟩ := h1 _ rfl
        refine ⟨v, q1, ?_⟩
        cases q2
        have e : sw2 n (n + 1) = n := by unfold sw2; simp
        have := RV.ptr (C := { C with ι := fun i => C.ι (sw2 n i) }) (n + 1) 0 (by show n + 1 < C.nx; omega)
        simp only [e] at this
        exact this
    · rw [if_neg e1] at hc
      by_cases e2 : a = t
      · rw [if_pos e2] at hc h1
        cases ht : tm[t]? with
        | none => rw [ht] at hc; cases hc
        | some c0 =>
          rw [ht] at hc h1
          cases hc
          obtain ⟨v, q1, q2⟩ := h1 _ rfl
          refine ⟨v, q1, ?_⟩
          cases q2
          have e : sw2 n n = n + 1 := by unfold sw2; simp
          have := RV.ptr (C := { C with ι := fun i => C.ι (sw2 n i) }) n 0 (by show n < C.nx; omega)
          simp only [e] at this
          exact this
      · rw [if_neg e2] at hc h1
        rw [if_neg e1] at h1
        obtain ⟨v, q1, q2⟩ := h1 c hc
        exact ⟨v, q1, rv q2 (hwf.1 t c hc)⟩
  · have := h.own _ v cv (own k v cv ho)
    refine ⟨this.form, fun b o ht => ?_⟩
    obtain ⟨q1, q2, q3, q4, q5, q6⟩ := this.cells b o ht
    exact ⟨q1, q2, q3, fun id hid => q4 (sw2 n id) (by rw [key]; exact hid), q5, q6⟩
  · refine h.sep _ _ v1 c1 v2 c2 (own k1 v1 c1 h1) (own k2 v2 c2 h2) fun e => hne ?_
    obtain ⟨k1, i1⟩ := k1
    obtain ⟨k2, i2⟩ := k2
    cases k1 with
    | zero => cases k2 with
      | zero => exact e
      | succ k2 => simp at e
    | succ k1 => cases k2 with
      | zero => simp at e
      | succ k2 =>
        simp only [Prod.mk.injEq, Nat.add_right_cancel_iff] at e
        rw [hswi e.1, e.2]
end Go.Proofs.YtleimfinniclgaaDoor.M
