/- The machine is right: what a function comes to, Go comes to. -/
import Derived.Test.YtleimfinniclgaaDoorMU
namespace Go.Proofs.YtleimfinniclgaaDoor.M
open Go.RowKit
set_option linter.unusedVariables false
set_option linter.unusedSimpArgs false

/-! ### Numbers of variables -/
theorem idsLts_iff (n : Nat) : ∀ l : List AVal, idsLts n l = true ↔ ∀ a, a ∈ l → a.idsLt n = true := by
  intro l
  induction l with
  | nil => simp [idsLts]
  | cons x r ih => simp [idsLts, ih]
theorem idsLts_flats {n : Nat} {xs : List AVal} : idsLts n xs = true ↔ ∀ u, u ∈ flats xs → u.idsLt n = true := by
  induction xs with
  | nil => simp [idsLts, flats]
  | cons x r ih =>
    have hx : x.idsLt n = true ↔ ∀ u, u ∈ x.flat → u.idsLt n = true := by
      cases x with
      | agg cs => simp only [AVal.idsLt, AVal.flat]; exact idsLts_iff n cs
      | _ => simp [AVal.flat]
    simp only [idsLts, Bool.and_eq_true, flats, List.flatMap_cons, List.mem_append]
    rw [hx, ih]
    constructor
    · rintro ⟨h1, h2⟩ u (hu | hu)
      · exact h1 u hu
      · exact h2 u hu
    · exact fun h => ⟨fun u hu => h u (.inl hu), fun u hu => h u (.inr hu)⟩
section
variable {P : Program} {C : Cx} {B : Nat} {F : Nat → Nat → Prop} {w0 : World} {hp : Heap} {tm : List Cell} {ct : Array Value}
theorem flat_idsLt {n : Nat} {e : AVal} (h : ∀ u, u ∈ e.flat → u.idsLt n = true) : e.idsLt n = true := by
  cases e with
  | agg cs => simp only [AVal.idsLt]; exact (idsLts_iff n cs).2 h
  | _ => exact h _ (by simp [AVal.flat])
theorem idsLt_flat {n : Nat} {e : AVal} (h : e.idsLt n = true) : ∀ u, u ∈ e.flat → u.idsLt n = true := by
  cases e with
  | agg cs => simp only [AVal.idsLt] at h; exact (idsLts_iff n cs).1 h
  | _ => intro u hu; simp [AVal.flat] at hu; subst hu; exact h
theorem RV.idsLt {v : AVal} {cv : Value} (h : RV C v cv) : v.idsLt C.nx = true := by
  induction h with
  | int k n => rfl
  | bool b => rfl
  | str s => rfl
  | agg cs vs hl h1 h ih =>
    simp only [AVal.idsLt]
    refine (idsLts_iff _ _).2 fun a ha => ?_
    obtain ⟨i, hi⟩ := List.getElem?_of_mem ha
    have hlt := (List.getElem?_eq_some_iff.1 hi).1
    exact ih i a _ hi (List.getElem?_eq_getElem (by omega))
  | lst xs A c sz cu hc hz hs h1 hm h ih =>
    simp only [AVal.idsLt]
    refine idsLts_flats.2 fun u hu => ?_
    obtain ⟨i, hi⟩ := List.getElem?_of_mem hu
    exact ih i u hi
  | tup cs vs hl h ih =>
    simp only [AVal.idsLt]
    refine (idsLts_iff _ _).2 fun a ha => ?_
    obtain ⟨i, hi⟩ := List.getElem?_of_mem ha
    have hlt := (List.getElem?_eq_some_iff.1 hi).1
    exact ih i a _ hi (List.getElem?_eq_getElem (by omega))
  | ptr id off hid => simpa [AVal.idsLt] using hid
  | pel e off b o cu h1 hm h ih =>
    simp only [AVal.idsLt]
    refine flat_idsLt fun u hu => ?_
    obtain ⟨i, hi⟩ := List.getElem?_of_mem hu
    exact ih i u hi
  | map id hid => simpa [AVal.idsLt] using hid
  | sl id off len sz c ag hid hc hx => simpa [AVal.idsLt] using hid
  | clo f fs cs fv cv hf hl h h' ih ih' =>
    simp only [AVal.idsLt, Bool.and_eq_true]
    refine ⟨(idsLts_iff _ _).2 fun a ha => ?_, (idsLts_iff _ _).2 fun a ha => ?_⟩
    · obtain ⟨i, hi⟩ := List.getElem?_of_mem ha
      have hlt := (List.getElem?_eq_some_iff.1 hi).1
      exact ih i a _ hi (List.getElem?_eq_getElem (by omega))
    · obtain ⟨i, hi⟩ := List.getElem?_of_mem ha
      have hlt := (List.getElem?_eq_some_iff.1 hi).1
      exact ih' i a _ hi (List.getElem?_eq_getElem (by omega))
  | nilp => rfl
  | nilf => rfl
  | nilm => rfl
  | nils => rfl
  | bad v => rfl
def Cx.low (D : Cx) (n : Nat) : Cx := { D with nx := n }
theorem RV.low {D : Cx} {n : Nat} {v : AVal} {cv : Value} (h : RV D v cv) (hi : v.idsLt n = true) : RV (D.low n) v cv := by
  induction h with
  | int k n => exact .int k n
  | bool b => exact .bool b
  | str s => exact .str s
  | agg cs vs hl h1 h ih =>
    simp only [AVal.idsLt] at hi
    exact .agg cs vs hl h1 fun i a v ha hv => ih i a v ha hv ((idsLts_iff _ _).1 hi a (List.mem_of_getElem? ha))
  | lst xs A c sz cu hc hz hs h1 hm h ih =>
    simp only [AVal.idsLt] at hi
    exact .lst xs A c sz cu hc hz hs h1 hm fun i u hu => ih i u hu (idsLts_flats.1 hi u (List.mem_of_getElem? hu))
  | tup cs vs hl h ih =>
    simp only [AVal.idsLt] at hi
    exact .tup cs vs hl fun i a v ha hv => ih i a v ha hv ((idsLts_iff _ _).1 hi a (List.mem_of_getElem? ha))
  | ptr id off hid => exact .ptr (C := D.low n) id off (show id < n by simpa [AVal.idsLt] using hi)
  | pel e off b o cu h1 hm h ih =>
    simp only [AVal.idsLt] at hi
    exact .pel e off b o cu h1 hm fun i u hu => ih i u hu (idsLt_flat hi u (List.mem_of_getElem? hu))
  | map id hid => exact .map (C := D.low n) id (show id < n by simpa [AVal.idsLt] using hi)
  | sl id off len sz c ag hid hc hx => exact .sl (C := D.low n) id off len sz c ag (show id < n by simpa [AVal.idsLt] using hi) hc hx
  | clo f fs cs fv cv hf hl h h' ih ih' =>
    simp only [AVal.idsLt, Bool.and_eq_true] at hi
    exact .clo f fs cs fv cv hf hl (fun i a v ha hv => ih i a v ha hv ((idsLts_iff _ _).1 hi.1 a (List.mem_of_getElem? ha))) (fun i a v ha hv => ih' i a v ha hv ((idsLts_iff _ _).1 hi.2 a (List.mem_of_getElem? ha)))
  | nilp => exact .nilp
  | nilf => exact .nilf
  | nilm => exact .nilm
  | nils => exact .nils
  | bad v => exact .bad v
theorem mapO_spec {f : AVal → Option AVal} : ∀ (l : List AVal) {us : List AVal}, mapO f l = some us → us.length = l.length ∧ ∀ (i : Nat) u, us[i]? = some u → ∃ v, l[i]? = some v ∧ f v = some u := by
  intro l
  induction l with
  | nil => intro us h; cases h; exact ⟨rfl, fun i u hi => by simp at hi⟩
  | cons v l ih =>
    intro us h
    simp only [mapO] at h
    cases h1 : f v with
    | none => rw [h1] at h; cases h
    | some u =>
      cases h2 : mapO f l with
      | none => rw [h1, h2] at h; cases h
      | some r =>
        rw [h1, h2] at h
        cases h
        obtain ⟨q1, q2⟩ := ih h2
        refine ⟨by simp [q1], fun i x hi => ?_⟩
        cases i with
        | zero => simp at hi; subst hi; exact ⟨v, rfl, h1⟩
        | succ i => simp at hi; obtain ⟨w, h3, h4⟩ := q2 i x hi; exact ⟨w, by simpa using h3, h4⟩
theorem fz_one {lo : Nat} {hp : Heap} {n : Nat} {v u : AVal} (h : fz lo hp n v = some u) (h1 : v.one = true) : u.one = true := by
  have key : v.idsLt lo = true ∨ ∃ m, fzv lo hp (fz lo hp m) v = some u := by
    cases n with
    | zero => simp only [fz] at h; split at h; (· exact .inl (by assumption)); cases h
    | succ n => simp only [fz] at h; split at h; (· exact .inl (by assumption)); exact .inr ⟨n, h⟩
  by_cases hl : v.idsLt lo = true
  · have : fz lo hp n v = some v := by cases n <;> (simp only [fz]; rw [if_pos hl])
    rw [this] at h; cases h; exact h1
  · rcases key with k | ⟨m, k⟩
    · exact absurd k hl
    · cases v <;> (try simp only [fzv] at k) <;> (try (cases k; done)) <;> (try (simp [AVal.one] at h1; done))
      split at k
      · split at k
        · obtain ⟨us, _, rfl⟩ := Option.map_eq_some_iff.1 k; rfl
        · cases k
      · cases k
theorem chunks_spec (sz : Nat) : ∀ (k : Nat) (us : List AVal), us.length = k * sz → (chunks sz k us).length = k ∧ (∀ x, x ∈ chunks sz k us → x.flat.length = sz) ∧ flats (chunks sz k us) = us := by
  intro k
  induction k with
  | zero => intro us h; simp at h; subst h; exact ⟨rfl, fun x hx => by simp [chunks] at hx, rfl⟩
  | succ k ih =>
    intro us h
    rw [Nat.add_mul] at h
    obtain ⟨h1, h2, h3⟩ := ih (us.drop sz) (by simp; omega)
    refine ⟨by simp [chunks, h1], fun x hx => ?_, ?_⟩
    · simp only [chunks, List.mem_cons] at hx
      rcases hx with rfl | hx
      · simp [AVal.flat]; omega
      · exact h2 x hx
    · simp only [chunks]
      show (AVal.agg (us.take sz)).flat ++ flats (chunks sz k (us.drop sz)) = us
      rw [h3]
      exact List.take_append_drop sz us
theorem chop_spec {ag : Bool} {sz n : Nat} {us : List AVal} (hl : us.length = n * sz) (h : ag = true ∨ sz = 1) (h1 : ∀ u, u ∈ us → u.one = true) : (chop ag sz n us).length = n ∧ (∀ x, x ∈ chop ag sz n us → x.flat.length = sz) ∧ flats (chop ag sz n us) = us := by
  unfold chop
  cases ag with
  | true => exact chunks_spec sz n us hl
  | false =>
    rcases h with h | rfl
    · cases h
    · have hf : ∀ u : AVal, u.one = true → u.flat = [u] := fun u hu => by cases u <;> first | rfl | (simp [AVal.one] at hu)
      refine ⟨by simpa using hl, fun x hx => by rw [hf x (h1 x hx)]; rfl, ?_⟩
      show flats us = us
      clear hl
      induction us with
      | nil => rfl
      | cons u r ih =>
        show u.flat ++ flats r = _
        rw [ih fun x hx => h1 x (List.mem_cons_of_mem _ hx), hf u (h1 u (List.mem_cons_self ..))]
        rfl
/-- The arrays from n on are frozen. -/
def Cx.ice (D : Cx) (n : Nat) (hp : Heap) : Cx := { ι := D.ι, I := fun b o => D.I b o ∨ ∃ id cs, n ≤ id ∧ hget hp id = some (.cells cs) ∧ b = D.ι id ∧ o < cs.length, nx := n, w := D.w }
theorem ice_le (D : Cx) (n : Nat) (hp : Heap) : (D.low n).Le (D.ice n hp) := ⟨Nat.le_refl _, fun _ _ => rfl, fun b o h => Or.inl h, fun _ _ _ => rfl, fun _ _ u hu => ⟨u, hu⟩⟩
theorem RV.ice {D : Cx} (h : HOk D B F w0 hp) (n : Nat) : ∀ (m : Nat) (v u : AVal) (cv : Value), RV D v cv → fz n hp m v = some u → RV (D.ice n hp) u cv := by
  have base : ∀ v cv, RV D v cv → v.idsLt n = true → RV (D.ice n hp) v cv := fun v cv hv hi => (hv.low hi).mono (ice_le D n hp)
  intro m
  induction m with
  | zero =>
    intro v u cv hv hf
    simp only [fz] at hf
    split at hf
    · rename_i hi; cases hf; exact base v cv hv hi
    · cases hf
  | succ m ih =>
    intro v u cv hv hf
    simp only [fz] at hf
    split at hf
    · rename_i hi; cases hf; exact base v cv hv hi
    · rename_i hnl
      clear hnl
      cases v <;> (try simp only [fzv] at hf) <;> (try (cases hf; done))
      case agg cs =>
        obtain ⟨us, hus, rfl⟩ := Option.map_eq_some_iff.1 hf
        obtain ⟨vs, rfl, hvl, h1, hr⟩ := hv.agg_inv
        obtain ⟨q1, q2⟩ := mapO_spec cs hus
        refine .agg us vs (by omega) (fun a ha => ?_) (fun i a x ha hx => ?_)
        · obtain ⟨i, hi⟩ := List.getElem?_of_mem ha
          obtain ⟨w, hw, hfw⟩ := q2 i a hi
          exact fz_one hfw (h1 w (List.mem_of_getElem? hw))
        · obtain ⟨w, hw, hfw⟩ := q2 i a ha
          exact ih w a x (hr i w x hw hx) hfw
      case tup cs =>
        obtain ⟨us, hus, rfl⟩ := Option.map_eq_some_iff.1 hf
        obtain ⟨vs, rfl, hvl, hr⟩ := hv.tup_inv
        obtain ⟨q1, q2⟩ := mapO_spec cs hus
        refine .tup us vs (by omega) (fun i a x ha hx => ?_)
        obtain ⟨w, hw, hfw⟩ := q2 i a ha
        exact ih w a x (hr i w x hw hx) hfw
      case sl id off len sz ag =>
        split at hf
        rotate_left
        · cases hf
        rename_i cs hg
        split at hf
        rotate_left
        · cases hf
        rename_i hc
        obtain ⟨hlo, hsz, hag, hle⟩ := hc
        obtain ⟨us, hus, rfl⟩ := Option.map_eq_some_iff.1 hf
        obtain ⟨c, rfl, hid, hcl, _⟩ := hv.sl_inv
        obtain ⟨vs, ty, hb, hvs, hcs⟩ := h.blk id cs hg
        obtain ⟨q1, q2⟩ := mapO_spec _ hus
        have hcell : ∀ i, D.w.cell? ⟨D.ι id, i, none⟩ = vs[i]? := fun i => by simp [World.cell?, hb]
        have q1' : us.length = len * sz := by rw [q1]; simp; omega
        have at_ : ∀ (i : Nat) u, us[i]? = some u → u.one = true ∧ ∃ v, vs[off + i]? = some v ∧ RV (D.ice n hp) u v := by
          intro i u hu
          obtain ⟨w, hw, hfw⟩ := q2 i u hu
          rw [List.getElem?_map, List.getElem?_take] at hw
          split at hw
          · rw [List.getElem?_drop] at hw
            obtain ⟨c', hc', rfl⟩ := Option.map_eq_some_iff.1 hw
            obtain ⟨r1, v, r2, r3⟩ := hcs _ c' hc'
            exact ⟨fz_one hfw r1, v, r2, ih _ u v r3 hfw⟩
          · cases hw
        have hone : ∀ u, u ∈ us → u.one = true := fun u hu => by
          obtain ⟨i, hi⟩ := List.getElem?_of_mem hu
          exact (at_ i u hi).1
        obtain ⟨c1, c2, c3⟩ := chop_spec q1' hag hone
        suffices hsuf : RV (D.ice n hp) (.lst (chop ag sz len us)) (.slice (some ⟨D.ι id, off, none⟩) (chop ag sz len us).length c) by rwa [c1] at hsuf
        refine RV.lst_mk (by rw [c1]; exact hcl) (fun _ => hsz) c2 (by rw [c3]; exact hone) ((vs.toList.drop off).take (len * sz)) (by rw [c3, q1']; simp; omega) (fun i v hi => ⟨D.ι id, off, rfl, (show (D.ice n hp).I (D.ι id) (off + i) from Or.inr ⟨id, cs, hlo, hg, rfl, ?_⟩), ?_⟩) (fun i u v hu hi => ?_)
        · have := (List.getElem?_eq_some_iff.1 hi).1
          simp at this
          omega
        · rw [List.getElem?_take] at hi
          split at hi
          · rw [List.getElem?_drop, Array.getElem?_toList] at hi
            exact (hcell _).trans hi
          · cases hi
        · rw [c3] at hu
          obtain ⟨_, v', r2, r3⟩ := at_ i u hu
          rw [List.getElem?_take] at hi
          split at hi
          · rw [List.getElem?_drop, Array.getElem?_toList, r2] at hi
            cases hi; exact r3
          · cases hi
theorem Left.fewer {q : Res} {v : Value} {w' : World} (hl : Left C B F w0 q v w') {hp' : Heap} (hs : ∀ i b, hget hp' i = some b → hget q.hp i = some b) : Left C B F w0 ⟨q.v, q.own, q.nx, hp'⟩ v w' := by
  obtain ⟨D, rfl, le, hx, hW, hr, ho⟩ := hl
  refine ⟨D, rfl, le, hx, hW.fewer hs, hr, fun hown => ?_⟩
  obtain ⟨o1, o2⟩ := ho hown
  refine ⟨⟨o1.form, fun b o t => ?_⟩, fun k v' cv' hk => o2 k v' cv' ?_⟩
  · obtain ⟨a1, a2, a3, a4, a5, a6⟩ := o1.cells b o t
    refine ⟨a1, a2, a3, fun id hid => a4 id ?_, a5, a6⟩
    obtain ⟨b', hb'⟩ := Option.isSome_iff_exists.1 hid
    rw [hs id b' hb']; rfl
  · obtain ⟨i, t⟩ := k
    cases i with
    | zero => exact hk
    | succ id => obtain ⟨cs, vs, ty, h1, h2⟩ := hk; exact ⟨cs, vs, ty, hs id _ h1, h2⟩
/-- What is left of a call, when its arrays are frozen and its variables forgotten. -/
theorem Left.close {q : Res} {v : Value} {w' : World} (hl : Left C B F w0 q v w') {m : Nat} {u : AVal} (hf : fz C.nx q.hp m q.v = some u) (hclean : ∀ id cs c, id < C.nx → hget q.hp id = some (.cells cs) → c ∈ cs → c.1.idsLt C.nx = true) (hcleanM : ∀ id es p, id < C.nx → hget q.hp id = some (.map es) → p ∈ es → p.1.idsLt C.nx = true ∧ p.2.idsLt C.nx = true) :
    Left C B F w0 ⟨u, slOwn C.nx q, C.nx, hlow C.nx q.hp⟩ v w' := by
  obtain ⟨D, rfl, le, hx, hW, hr, ho⟩ := hl
  have hlo : ∀ i b, hget (hlow C.nx q.hp) i = some b → i < C.nx ∧ hget q.hp i = some b := fun i b hb => by
    rw [hget_hlow] at hb
    split at hb
    · rename_i h; exact ⟨h, hb⟩
    · cases hb
  have hlo' : ∀ i, (hget (hlow C.nx q.hp) i).isSome = true → i < C.nx ∧ (hget q.hp i).isSome = true := fun i hi => by
    obtain ⟨b, hb⟩ := Option.isSome_iff_exists.1 hi
    obtain ⟨h1, h2⟩ := hlo i b hb
    exact ⟨h1, by rw [h2]; rfl⟩
  have up : ∀ {v : AVal} {cv : Value}, RV D v cv → v.idsLt C.nx = true → RV (D.ice C.nx q.hp) v cv := fun hv hi => (hv.low hi).mono (ice_le D C.nx q.hp)
  have own : ∀ k v cv, Owned (D.ice C.nx q.hp) (hlow C.nx q.hp) [] #[] k v cv → Owned D q.hp [] #[] k v cv := by
    intro k v cv hk
    obtain ⟨i, t⟩ := k
    cases i with
    | zero => simp [Owned] at hk
    | succ id =>
      obtain ⟨cs, vs, ty, h1, h2, h3, h4⟩ := hk
      exact ⟨cs, vs, ty, (hlo id _ h1).2, h2, h3, h4⟩
  have ok : ∀ {v : AVal} {cv : Value}, OwnOk D B F q.hp v cv → OwnOk (D.ice C.nx q.hp) B F (hlow C.nx q.hp) v cv := fun h1 => ⟨h1.form, fun b o t => by
    obtain ⟨a1, a2, a3, a4, a5, a6⟩ := h1.cells b o t
    refine ⟨a1, fun hI => ?_, a3, fun id hid => a4 id (hlo' id hid).2, a5, a6⟩
    rcases hI with hI | ⟨id, cs, _, hg, e, _⟩
    · exact a2 hI
    · exact a4 id (by rw [hg]; rfl) e⟩
  refine ⟨D.ice C.nx q.hp, rfl, ⟨Nat.le_refl _, le.map, fun b o h => .inl (le.imm b o h), le.cell, le.ex⟩, rfl, ⟨⟨hW.heap.below, hW.heap.base, fun id hid => (hlo' id hid).1, fun id cs hid => ?_, fun i j a b => hW.heap.inj i j (hlo' i a).2 (hlo' j b).2, fun i a => ?_, fun b o hI => ?_, fun b o hF => ?_, fun id es hg => (by
    obtain ⟨hlt, hg'⟩ := hlo id _ hg
    obtain ⟨ents, clk, h1, h2, h3⟩ := hW.heap.mapb id es hg'
    refine ⟨ents, clk, h1, h2, fun i p hp => ?_⟩
    obtain ⟨x, q1, q2, q3⟩ := h3 i p hp
    obtain ⟨m1, m2⟩ := hcleanM id es p hlt hg' (List.mem_of_getElem? hp)
    exact ⟨x, q1, up q2 m1, up q3 m2⟩)⟩, rfl, fun t c ht => by simp at ht, fun k v cv hk => ok (hW.own k v cv (own k v cv hk)), fun k1 k2 v1 c1 v2 c2 h1 h2 => hW.sep k1 k2 v1 c1 v2 c2 (own _ _ _ h1) (own _ _ _ h2)⟩, hr.ice hW.heap C.nx m _ _ _ hf, fun hown => ?_⟩
  · obtain ⟨hlt, hg⟩ := hlo id _ hid
    obtain ⟨vs, ty, h1, h2, h3⟩ := hW.heap.blk id cs hg
    refine ⟨vs, ty, h1, h2, fun i c hc => ?_⟩
    obtain ⟨r1, v, r2, r3⟩ := h3 i c hc
    exact ⟨r1, v, r2, up r3 (hclean id cs c hlt hg (List.mem_of_getElem? hc))⟩
  · obtain ⟨hlt, hs⟩ := hlo' i a
    obtain ⟨o1, o2, o3⟩ := hW.heap.out i hs
    refine ⟨o1, o2, fun o => ⟨fun hI => ?_, (o3 o).2⟩⟩
    rcases hI with hI | ⟨id, cs, hle, hg, e, _⟩
    · exact (o3 o).1 hI
    · have := hW.heap.inj i id hs (by rw [hg]; rfl) e
      omega
  · rcases hI with hI | ⟨id, cs, _, hg, rfl, hlt⟩
    · exact hW.heap.imm b o hI
    · obtain ⟨vs, ty, h1, h2, _⟩ := hW.heap.blk id cs hg
      exact ⟨vs[o]'(by omega), by
        show D.w.cell? _ = _
        simp [World.cell?, h1, show o < vs.size by omega]⟩
  · obtain ⟨f1, f2, f3⟩ := hW.heap.far b o hF
    refine ⟨f1, f2, fun hI => ?_⟩
    rcases hI with hI | ⟨id, cs, _, hg, rfl, _⟩
    · exact f3 hI
    · exact ((hW.heap.out id (by rw [hg]; rfl)).2.2 o).2 hF
  · simp only [slOwn, Bool.and_eq_true] at hown
    have e : u = q.v := by
      have : fz C.nx q.hp m q.v = some q.v := by cases m <;> (simp only [fz]; rw [if_pos hown.2])
      rw [this] at hf; cases hf; rfl
    subst e
    obtain ⟨o1, o2⟩ := ho hown.1
    exact ⟨ok o1, fun k v' cv' hk => o2 k v' cv' (own k v' cv' hk)⟩
/-- What a call that changed nothing leaves. -/
theorem Left.shut (h : WRel C B F w0 hp [] #[]) {q : Res} {v : Value} {w' : World} (hl : Left C B F w0 q v w') {m : Nat} {u : AVal} (hf : fz C.nx q.hp m q.v = some u) (hsame : ∀ id, id < C.nx → hget q.hp id = hget hp id) : Left C B F w0 ⟨u, slOwn C.nx q, C.nx, hp⟩ v w' := by
  have hc := hl.close hf (fun id cs c hid hg hm => by
    rw [hsame id hid] at hg
    obtain ⟨vs, ty, _, _, h3⟩ := h.heap.blk id cs hg
    obtain ⟨i, hi⟩ := List.getElem?_of_mem hm
    obtain ⟨_, v, _, hr⟩ := h3 i c hi
    exact hr.idsLt) (fun id es p hid hg hm => by
    rw [hsame id hid] at hg
    obtain ⟨ents, clk, _, _, h3⟩ := h.heap.mapb id es hg
    obtain ⟨i, hi⟩ := List.getElem?_of_mem hm
    obtain ⟨x, _, q2, q3⟩ := h3 i p hi
    exact ⟨q2.idsLt, q3.idsLt⟩)
  refine hc.fewer fun i b hb => ?_
  show hget (hlow C.nx q.hp) i = some b
  have hlt : i < C.nx := h.heap.ids i (by rw [hb]; rfl)
  rw [hget_hlow, if_pos hlt, hsame i hlt]
  exact hb

/-! ### Entering and leaving -/
theorem WRel.enter (h : WRel C B F w0 hp [] #[]) (args : List AVal) (vs : List Value) (hl : vs.length = args.length) (hr : ∀ (i : Nat) (a : AVal) (v : Value), args[i]? = some a → vs[i]? = some v → RV C a v) (n : Nat) :
    WRel C B F w0 hp (args.map (·, false) ++ List.replicate n (.tup [], false)) (vs.toArray ++ Array.replicate n undef) := by
  have get : ∀ (t : Nat) c, (args.map (·, false) ++ List.replicate n ((.tup [] : AVal), false))[t]? = some c → c.2 = false ∧ ∃ v, (vs.toArray ++ Array.replicate n undef)[t]? = some v ∧ RV C c.1 v := by
    intro t c ht
    rcases Nat.lt_or_ge t args.length with h1 | h1
    · rw [List.getElem?_append_left (by simpa using h1), List.getElem?_map] at ht
      obtain ⟨a, ha, rfl⟩ := Option.map_eq_some_iff.1 ht
      refine ⟨rfl, vs[t]'(by omega), ?_, hr t a _ ha (List.getElem?_eq_getElem (by omega))⟩
      rw [Array.getElem?_append_left (by simp; omega)]
      simp
    · rw [List.getElem?_append_right (by simpa using h1), List.length_map, List.getElem?_replicate] at ht
      split at ht
      · rename_i h2
        cases ht
        refine ⟨rfl, undef, ?_, undef_rv⟩
        have h3 : (vs.toArray ++ Array.replicate n undef).size = args.length + n := by simp [hl]
        rw [Array.getElem?_append_right (by simp; omega)]
        simp only [List.size_toArray, Array.getElem?_replicate]
        rw [if_pos (by omega)]
      · cases ht
  refine h.rekey (fun _ => rfl) h.heap.blk (fun _ _ h => h) (by simp [hl]) (fun t c ht => (get t c ht).2) id (fun k v cv ho => ?_) (fun k k' v cv v' cv' _ _ e => e)
  obtain ⟨i, t⟩ := k
  cases i with
  | zero => have := (get t _ ho.1).1; simp at this
  | succ id => exact ho
theorem WRel.bare (h : WRel C B F w0 hp tm ct) : WRel C B F w0 hp [] #[] := by
  refine h.rekey (fun _ => rfl) h.heap.blk (fun _ _ h => h) rfl (fun t c ht => by simp at ht) id (fun k v cv ho => ?_) (fun k k' v cv v' cv' _ _ e => e)
  obtain ⟨i, t⟩ := k
  cases i with
  | zero => simp [Owned] at ho
  | succ id => exact ho
/-- What is read, whoever takes what it owns. -/
theorem load_val (h : HOk C B F w0 hp) (ops : Array Oper) (ro : Md) (dst : Option Tmp) (t : TypeId) {a : AVal} {u : Value} (hu : RV C a u) {q : Out} (hq : aload P ops ro dst t a C.nx hp = some q) : ∃ v, (Instr.loadAt t u).run P C.w = .ok v C.w ∧ RV C q.v v ∧ (dst = none → q.own = false) := by
  cases a <;> (try simp only [aload] at hq) <;> try (cases hq; done)
  · rename_i id off
    obtain ⟨rfl, hid⟩ := hu.ptr_inv
    cases hg : hget hp id with
    | none => rw [hg] at hq; cases hq
    | some blk =>
      rw [hg] at hq
      cases blk <;> (try simp only at hq) <;> try (cases hq; done)
      rename_i cs
      obtain ⟨vs, ty, hb, hsz, hcs⟩ := h.blk id cs hg
      have hcell : ∀ i, C.w.cell? ⟨C.ι id, i, none⟩ = vs[i]? := fun i => by simp [World.cell?, hb]
      cases hagg : isAggT P t with
      | none => rw [hagg] at hq; cases hq
      | some b =>
        rw [hagg] at hq
        obtain ⟨ti, hti⟩ := info_of_agg hagg
        cases b with
        | true =>
          simp only at hq
          split at hq
          · rename_i hle
            injection hq with hq; subst hq
            have hlv : off + sizeT P t ≤ vs.toList.length := by rw [Array.length_toList]; omega
            have hrun := run_loadCells_list (P := P) C.w ⟨C.ι id, off, none⟩ ((vs.toList.drop off).take (sizeT P t)) (fun j v hj => by
              rw [List.getElem?_take] at hj
              split at hj
              · rw [List.getElem?_drop, Array.getElem?_toList] at hj
                rw [add_at, hcell]; exact hj
              · cases hj)
            have hlen : ((vs.toList.drop off).take (sizeT P t)).length = sizeT P t := by simp; omega
            rw [hlen] at hrun
            refine ⟨.agg ((vs.toList.drop off).take (sizeT P t)).toArray, by simp [Instr.loadAt, Instr.sureAddr, loadVar, run_isAggT hagg, run_sizeT hti, hrun], ?_, fun _ => rfl⟩
            refine .agg _ _ (by simp; omega) (fun x hx => ?_) (fun i x v hx hv => ?_)
            · obtain ⟨c, hc, rfl⟩ := List.mem_map.1 hx
              obtain ⟨j, hj⟩ := List.getElem?_of_mem (List.mem_of_mem_drop (List.mem_of_mem_take hc))
              exact (hcs j c hj).1
            · rw [List.getElem?_map, List.getElem?_take] at hx
              rw [List.getElem?_take] at hv
              split at hx
              · rename_i hi
                rw [if_pos hi] at hv
                rw [List.getElem?_drop] at hx hv
                obtain ⟨c, hc, rfl⟩ := Option.map_eq_some_iff.1 hx
                obtain ⟨_, v', h2, h3⟩ := hcs _ c hc
                rw [Array.getElem?_toList, h2] at hv
                injection hv with hv; subst hv; exact h3
              · cases hx
          · cases hq
        | false =>
          simp only at hq
          cases hc : cs[off]? with
          | none => rw [hc] at hq; cases hq
          | some c =>
            rw [hc] at hq
            obtain ⟨x, f⟩ := c
            obtain ⟨_, v, hv, hr⟩ := hcs off _ hc
            have hrun : (Instr.loadAt t (.pointer (some ⟨C.ι id, off, none⟩))).run P C.w = .ok v C.w := by
              simp [Instr.loadAt, Instr.sureAddr, loadVar, run_isAggT hagg, load, Sem.run, hcell, hv]
            refine ⟨v, hrun, ?_⟩
            cases f with
            | false => simp only at hq; injection hq with hq; subst hq; exact ⟨hr, fun _ => rfl⟩
            | true =>
              simp only at hq
              split at hq
              · rename_i hf
                split at hq
                · injection hq with hq; subst hq
                  exact ⟨hr, fun hd => by subst hd; simp [feeds] at hf⟩
                · split at hq
                  · injection hq with hq; subst hq
                    exact ⟨hr, fun hd => by subst hd; simp [feeds] at hf⟩
                  · injection hq with hq; subst hq; exact ⟨hr, fun _ => rfl⟩
              · injection hq with hq; subst hq; exact ⟨hr, fun _ => rfl⟩
  · rename_i e off
    obtain ⟨r, hr, rfl⟩ := val_some hq
    obtain ⟨z, hz, hrr⟩ := sound_load_pel (P := P) t hu hr
    exact ⟨z, hz, hrr, fun _ => rfl⟩
def resOf (ct : Array Value) : ResultVar → Sem Value
  | .tmp t => pure (ct.getD t undef)
  | .cell a t => do loadVar t (← asAddr (ct.getD a undef))
theorem sound_res (h : WRel C B F w0 hp tm ct) (r : ResultVar) {c : Cell} (hr : ares P ⟨tm, C.nx, hp⟩ r = some c) :
    ∃ u, (resOf ct r).run P C.w = .ok u C.w ∧ RV C c.1 u ∧ (c.2 = true → ∃ t, Owned C hp tm ct (0, t) c.1 u) := by
  have hgd : ∀ (t : Nat) c, tm[t]? = some c → ∃ u, ct[t]? = some u ∧ ct.getD t undef = u ∧ RV C c.1 u := by
    intro t c ht
    obtain ⟨u, hu, hrv⟩ := h.tmp t c ht
    have hlt := (Array.getElem?_eq_some_iff.1 hu).1
    have he := (Array.getElem?_eq_some_iff.1 hu).2
    exact ⟨u, hu, by simp [Array.getD, hlt, he], hrv⟩
  cases r with
  | tmp t =>
    have ht : tm[t]? = some c := hr
    obtain ⟨u, hu, hg, hrv⟩ := hgd t c ht
    refine ⟨u, by simp only [resOf, hg]; rfl, hrv, fun hc => ⟨t, ?_, hu⟩⟩
    rw [ht]
    obtain ⟨v, f⟩ := c
    simp only at hc
    rw [hc]
  | cell a t =>
    simp only [ares] at hr
    cases ha : tm[a]? with
    | none => rw [ha] at hr; cases hr
    | some p =>
      rw [ha] at hr
      obtain ⟨pv, pf⟩ := p
      simp only at hr
      obtain ⟨q, hq, rfl⟩ := Option.map_eq_some_iff.1 hr
      obtain ⟨u, hu, hg, hrv⟩ := hgd a _ ha
      obtain ⟨v, hrun, hrr, hno⟩ := load_val (P := P) h.heap #[] ⟨C.nx, []⟩ none t hrv hq
      have hptr : ∃ ad, u = .pointer (some ad) := by
        cases pv <;> (try simp only [aload] at hq) <;> try (cases hq; done)
        · exact ⟨_, hrv.ptr_inv.1⟩
        · obtain ⟨b, o, e, _⟩ := hrv.pel_inv; exact ⟨_, e⟩
      obtain ⟨ad, rfl⟩ := hptr
      have hrun2 : (loadVar t ad).run P C.w = .ok v C.w := by simpa [Instr.loadAt, Instr.sureAddr] using hrun
      refine ⟨v, by simp only [resOf, hg]; simp [asAddr, hrun2], hrr, fun hc => ?_⟩
      simp only at hc
      rw [hno rfl] at hc; cases hc
theorem run_reslist (h : WRel C B F w0 hp tm ct) : ∀ (l : List ResultVar) {vs : List AVal}, areslist P ⟨tm, C.nx, hp⟩ l = some vs → ∃ us, (l.mapM (resOf ct)).run P C.w = .ok us C.w ∧ us.length = vs.length ∧ ∀ (i : Nat) (a : AVal) (u : Value), vs[i]? = some a → us[i]? = some u → RV C a u := by
  intro l
  induction l with
  | nil => intro vs hv; simp only [areslist] at hv; cases hv; exact ⟨[], rfl, rfl, fun i a u hi => by simp at hi⟩
  | cons r l ih =>
    intro vs hv
    simp only [areslist] at hv
    cases h1 : ares P ⟨tm, C.nx, hp⟩ r with
    | none => rw [h1] at hv; cases hv
    | some c =>
      cases h2 : areslist P ⟨tm, C.nx, hp⟩ l with
      | none => rw [h1, h2] at hv; cases hv
      | some ws =>
        rw [h1, h2] at hv
        obtain ⟨cv, cf⟩ := c
        cases hv
        obtain ⟨u, hu, hr, _⟩ := sound_res h r h1
        obtain ⟨us, hus, hl, hrr⟩ := ih h2
        refine ⟨u :: us, by simp [List.mapM_cons, hu, hus], by simp [hl], fun i a x ha hx => ?_⟩
        cases i with
        | zero => simp at ha hx; subst ha hx; exact hr
        | succ i => simp at ha hx; exact hrr i a x ha hx
theorem areslist_len : ∀ (l : List ResultVar) {s : St} {vs : List AVal}, areslist P s l = some vs → vs.length = l.length := by
  intro l
  induction l with
  | nil => intro s vs h; simp only [areslist] at h; cases h; rfl
  | cons r l ih =>
    intro s vs h
    simp only [areslist] at h
    split at h
    · rename_i h1 h2; cases h; simp [ih h2]
    · cases h
theorem sound_results (h : WRel C B F w0 hp tm ct) (fn : Func) {c : Cell} (hr : aresults P fn.results.toList ⟨tm, C.nx, hp⟩ = some c) :
    ∃ u, (results fn ct).run P C.w = .ok u C.w ∧ RV C c.1 u ∧ (c.2 = true → ∃ t, Owned C hp tm ct (0, t) c.1 u) := by
  have hres : results fn ct = (do let vs ← fn.results.mapM (resOf ct); pure (if h : vs.size = 1 then vs[0] else .tuple vs)) := by
    unfold results
    congr 1
  have hm : fn.results.mapM (resOf ct) = List.toArray <$> fn.results.toList.mapM (resOf ct) := Array.mapM_eq_mapM_toList
  rw [hres, hm]
  generalize fn.results.toList = l at hr ⊢
  unfold aresults at hr
  split at hr
  · rename_i r
    obtain ⟨u, hu, hrv, ho⟩ := sound_res h r hr
    exact ⟨u, by simp [List.mapM_cons, hu], hrv, ho⟩
  · rename_i hne
    obtain ⟨vs, hvs, rfl⟩ := Option.map_eq_some_iff.1 hr
    obtain ⟨us, hus, hl, hrr⟩ := run_reslist h _ hvs
    have hlen := areslist_len _ hvs
    have h1 : us.length ≠ 1 := by
      intro e
      rw [hl, hlen] at e
      obtain ⟨r, hr1⟩ := List.length_eq_one_iff.1 e
      exact hne r hr1
    refine ⟨.tuple us.toArray, by simp [hus, h1], RV.tup vs us hl hrr, fun hc => by cases hc⟩
theorem abody_good {call : CallF} {kd : Knd} (hcall : GoodCall P call) (hdr : Draws P kd call) {n nx : Nat} {ro : Md} {fn : Func} {f : FuncId} {args : List AVal} {r : Res} (hf : P.funcs[f]? = some fn) (hname : fn.name ≠ "runtime.NumGoroutine")
    (hb : abody P kd call n ro fn args nx hp = some r) (C : Cx) (B : Nat) (F : Nat → Nat → Prop) (w0 : World) (vs : List Value) (hnx : C.nx = nx) (h : WRel C B F w0 hp [] #[]) (hl : vs.length = args.length)
    (hr : ∀ (i : Nat) (a : AVal) (v : Value), args[i]? = some a → vs[i]? = some v → RV C a v) : Ans P f vs.toArray C.w (Left C B F w0 r) := by
  unfold abody at hb
  cases hc : fn.body with
  | none => rw [hc] at hb; cases hb
  | some c =>
    rw [hc] at hb
    simp only at hb
    have hcalls : Calls P f vs.toArray C.w fun | .returned v, w' => Left C B F w0 r v w' | _, _ => False := by
      refine calls_of_wp hf hc ?_
      have hW := h.enter args vs hl hr (fn.ntmps - args.length)
      rw [show fn.ntmps - vs.toArray.size = fn.ntmps - args.length by simp [hl]]
      have fin : ∀ (x : AExit) (s : St), (x = .normal ∨ x = .ret) → aexec P kd call ro n c ⟨args.map (·, false) ++ List.replicate (fn.ntmps - args.length) (.tup [], false), C.nx, hp⟩ = some (x, s) → (aresults P fn.results.toList s).map (fun c => (⟨c.1, c.2, s.nx, s.hp⟩ : Res)) = some r →
          c.wp P (bodyPost P fn fun | .returned v, w' => Left C B F w0 r v w' | _, _ => False) ⟨vs.toArray ++ Array.replicate (fn.ntmps - args.length) undef, []⟩ C.w := by
        intro x s hx he hres
        obtain ⟨cr, hcr, rfl⟩ := Option.map_eq_some_iff.1 hres
        refine sound_exec hcall hdr ro [] n c C _ hp _ x s _ hW he fun D ct' le hxn hWD => ?_
        have hs : s = ⟨s.tm, D.nx, s.hp⟩ := by rw [hxn]
        rw [hs] at hcr
        obtain ⟨u, hu, hrv, ho⟩ := sound_results hWD fn hcr
        have hleft : Left C B F w0 ⟨cr.1, cr.2, s.nx, s.hp⟩ u D.w := by
          refine ⟨D, rfl, le, hxn, hWD.bare, hrv, fun hown => ?_⟩
          obtain ⟨t, ht⟩ := ho hown
          refine ⟨hWD.own _ _ _ ht, fun k v' cv' hk => ?_⟩
          obtain ⟨id, i, rfl, hk'⟩ := Owned.none_frame (tm := s.tm) (ct := ct') hk
          exact hWD.sep _ _ _ _ _ _ ht hk' (by simp)
        rcases hx with rfl | rfl
        · exact ⟨rfl, u, hu, hleft⟩
        · exact ⟨rfl, u, hu, hleft⟩
      rw [← hnx] at hb
      split at hb
      · rename_i s he; exact fin .normal s (.inl rfl) he hb
      · rename_i s he; exact fin .ret s (.inr rfl) he hb
      · cases hb
    intro o a next Q hn
    have hcf : (callFunc f vs.toArray).run P C.w = .ok (.enter f vs.toArray) C.w := by
      simp [callFunc, hf, hname, hc]
    rw [hcf]
    refine Calls.mono hcalls fun e w' he => ?_
    cases e with
    | returned v => exact hn v w' he
    | panicked ch => exact he.elim
    | outgrown => exact he.elim
/-- A value without variables stands for the same elsewhere. -/
theorem RV.noid {D E : Cx} (hI : ∀ b o, D.I b o → E.I b o) (hw : E.w = D.w) {v : AVal} {cv : Value} (h : RV D v cv) (hi : v.idsLt 0 = true) : RV E v cv := by
  induction h with
  | int k n => exact .int k n
  | bool b => exact .bool b
  | str s => exact .str s
  | agg cs vs hl h1 h ih =>
    simp only [AVal.idsLt] at hi
    exact .agg cs vs hl h1 fun i a v ha hv => ih i a v ha hv ((idsLts_iff _ _).1 hi a (List.mem_of_getElem? ha))
  | lst xs A c sz cu hc hz hs h1 hm h ih =>
    simp only [AVal.idsLt] at hi
    refine .lst xs A c sz cu hc hz hs h1 (fun i u hu => ?_) fun i u hu => ih i u hu (idsLts_flats.1 hi u (List.mem_of_getElem? hu))
    obtain ⟨b, o, e, q1, q2⟩ := hm i u hu
    exact ⟨b, o, e, hI _ _ q1, by rw [hw]; exact q2⟩
  | tup cs vs hl h ih =>
    simp only [AVal.idsLt] at hi
    exact .tup cs vs hl fun i a v ha hv => ih i a v ha hv ((idsLts_iff _ _).1 hi a (List.mem_of_getElem? ha))
  | ptr id off hid => simp [AVal.idsLt] at hi
  | pel e off b o cu h1 hm h ih =>
    simp only [AVal.idsLt] at hi
    refine .pel e off b o cu h1 (fun i u hu => ?_) fun i u hu => ih i u hu (idsLt_flat hi u (List.mem_of_getElem? hu))
    obtain ⟨q1, q2⟩ := hm i u hu
    exact ⟨hI _ _ q1, by rw [hw]; exact q2⟩
  | map id hid => simp [AVal.idsLt] at hi
  | sl id off len sz c ag hid hc hx => simp [AVal.idsLt] at hi
  | clo f fs cs fv cv hf hl h h' ih ih' =>
    simp only [AVal.idsLt, Bool.and_eq_true] at hi
    exact .clo f fs cs fv cv hf hl (fun i a v ha hv => ih i a v ha hv ((idsLts_iff _ _).1 hi.1 a (List.mem_of_getElem? ha))) (fun i a v ha hv => ih' i a v ha hv ((idsLts_iff _ _).1 hi.2 a (List.mem_of_getElem? ha)))
  | nilp => exact .nilp
  | nilf => exact .nilf
  | nilm => exact .nilm
  | nils => exact .nils
  | bad v => exact .bad v
/-- The context of a call that does not look at the heap. -/
def Cx.idle (C : Cx) : Cx := { C with nx := 0 }
def OldF (C : Cx) (b o : Nat) : Prop := ¬ C.I b o ∧ (∃ u, C.w.cell? ⟨b, o, none⟩ = some u) ∧ C.w.frozen? ⟨b, o, none⟩ = false
theorem WRel.idle (h : WRel C B F w0 hp [] #[]) : WRel C.idle C.w.heap.size (OldF C) C.w [] [] #[] := by
  have hg : ∀ i, ¬ (hget [] i).isSome = true := fun i h => by simp [hget] at h
  refine ⟨⟨Below.refl _ _, Nat.le_refl _, fun i hi => absurd hi (hg i), fun id cs h => by simp [hget] at h, fun i j hi => absurd hi (hg i), fun i hi => absurd hi (hg i), h.heap.imm, fun b o hF => ⟨hF.2.1, hF.2.2, hF.1⟩, fun id es h => by simp [hget] at h⟩, rfl, fun t c ht => by simp at ht, fun k v cv ho => ?_, fun k1 k2 v1 c1 v2 c2 h1 => ?_⟩
  · obtain ⟨i, t⟩ := k
    cases i with
    | zero => simp [Owned] at ho
    | succ id => obtain ⟨cs, vs, ty, h, _⟩ := ho; simp [hget] at h
  · obtain ⟨i, t⟩ := k1
    cases i with
    | zero => simp [Owned] at h1
    | succ id => obtain ⟨cs, vs, ty, h, _⟩ := h1; simp [hget] at h
theorem Left.lift (h : WRel C B F w0 hp [] #[]) {q : Res} {v : Value} {w' : World} (hq : q.nx = 0) (hl : Left C.idle C.w.heap.size (OldF C) C.w q v w') : Left C B F w0 ⟨q.v, q.own, C.nx, hp⟩ v w' := by
  obtain ⟨D, rfl, le, hx, hW, hr, ho⟩ := hl
  have hb := hW.heap.below
  have hBs : B ≤ C.w.heap.size := Nat.le_trans h.heap.base h.heap.below.size
  have hc : ∀ b o, b < C.w.heap.size → D.w.cell? ⟨b, o, none⟩ = C.w.cell? ⟨b, o, none⟩ := fun b o hlt => hb.cell (p := ⟨b, o, none⟩) hlt
  have hf : ∀ b o, b < C.w.heap.size → D.w.frozen? ⟨b, o, none⟩ = C.w.frozen? ⟨b, o, none⟩ := fun b o hlt => hb.frozen (p := ⟨b, o, none⟩) hlt
  have hI : ∀ b o, OldF C b o → ¬ D.I b o := fun b o hF => (hW.heap.far b o hF).2.2
  have le2 : C.Le { ι := C.ι, I := D.I, nx := C.nx, w := D.w } := ⟨Nat.le_refl _, fun _ _ => rfl, le.imm, le.cell, le.ex⟩
  have hblk : ∀ id, (hget hp id).isSome = true → D.w.heap[C.ι id]? = C.w.heap[C.ι id]? := fun id hid => hb.block _ (h.heap.out id hid).2.1
  have hown : ∀ k v cv, Owned { ι := C.ι, I := D.I, nx := C.nx, w := D.w } hp [] #[] k v cv → Owned C hp [] #[] k v cv := by
    intro k v cv hk
    obtain ⟨i, t⟩ := k
    cases i with
    | zero => simp [Owned] at hk
    | succ id =>
      obtain ⟨cs, vs, ty, h1, h2, h3, h4⟩ := hk
      exact ⟨cs, vs, ty, h1, h2, by rw [← hblk id (by rw [h1]; rfl)]; exact h3, h4⟩
  refine ⟨{ ι := C.ι, I := D.I, nx := C.nx, w := D.w }, rfl, le2, rfl, ⟨⟨h.heap.below.trans (hb.mono hBs), h.heap.base, h.heap.ids, fun id cs hid => ?_, h.heap.inj, fun i hi => ?_, fun b o hi => hW.heap.imm b o hi, fun b o hF => ?_, fun id es hg => (h.heap.mapb id es hg).mono le2 (hblk id (by rw [hg]; rfl))⟩, rfl, fun t c ht => by simp at ht, fun k v cv hk => ?_, fun k1 k2 v1 c1 v2 c2 h1 h2 => h.sep k1 k2 v1 c1 v2 c2 (hown _ _ _ h1) (hown _ _ _ h2)⟩, RV.noid (D := D) (E := { ι := C.ι, I := D.I, nx := C.nx, w := D.w }) (fun _ _ h => h) rfl hr (by have := hr.idsLt; rw [hx, hq] at this; exact this), fun hown' => ?_⟩
  · obtain ⟨vs, ty, h1, h2, h3⟩ := h.heap.blk id cs hid
    refine ⟨vs, ty, by rw [← h1]; exact hblk id (by rw [hid]; rfl), h2, fun i c hc => ?_⟩
    obtain ⟨r1, v, r2, r3⟩ := h3 i c hc
    exact ⟨r1, v, r2, r3.mono le2⟩
  · obtain ⟨o1, o2, o3⟩ := h.heap.out i hi
    refine ⟨o1, Nat.lt_of_lt_of_le o2 hb.size, fun o => ⟨fun hD => ?_, (o3 o).2⟩⟩
    obtain ⟨u, hu⟩ := hW.heap.imm _ _ hD
    rw [hc _ _ o2] at hu
    refine hI _ _ ⟨(o3 o).1, ⟨u, hu⟩, ?_⟩ hD
    obtain ⟨b, hb'⟩ := Option.isSome_iff_exists.1 hi
    cases b with
    | cells cs =>
      obtain ⟨vs, ty, h1, _⟩ := h.heap.blk i cs hb'
      simp [World.frozen?, h1]
    | map es =>
      obtain ⟨ents, clk, h1, _⟩ := h.heap.mapb i es hb'
      simp [World.cell?, h1] at hu
  · obtain ⟨f1, f2, f3⟩ := h.heap.far b o hF
    have hlt : b < C.w.heap.size := by obtain ⟨u, hu⟩ := f1; exact cell_lt hu
    exact ⟨by rw [hc b o hlt]; exact f1, by rw [hf b o hlt]; exact f2, hI b o ⟨f3, f1, f2⟩⟩
  · have ok := h.own k v cv (hown k v cv hk)
    refine ⟨ok.form, fun b o t => ?_⟩
    obtain ⟨a1, a2, a3, a4, a5, a6⟩ := ok.cells b o t
    have hlt : b < C.w.heap.size := by obtain ⟨u, hu⟩ := a5; exact cell_lt hu
    exact ⟨a1, hI b o ⟨a2, a5, a6⟩, a3, a4, by rw [hc b o hlt]; exact a5, by rw [hf b o hlt]; exact a6⟩
  · obtain ⟨o1, o2⟩ := ho hown'
    refine ⟨⟨o1.form, fun b o t => ?_⟩, fun k v' cv' hk b o t t' => ?_⟩
    · obtain ⟨a1, a2, a3, a4, a5, a6⟩ := o1.cells b o t
      refine ⟨Nat.le_trans hBs a1, a2, fun hF => ?_, fun id hid e => ?_, a5, a6⟩
      · obtain ⟨u, hu⟩ := (h.heap.far b o hF).1
        have := cell_lt hu
        omega
      · have : b = C.ι id := e
        have := (h.heap.out id hid).2.1
        omega
    · obtain ⟨a1, _⟩ := o1.cells b o t
      obtain ⟨_, _, _, _, ⟨u, hu⟩, _⟩ := (h.own k v' cv' (hown k v' cv' hk)).cells b o t'
      have := cell_lt hu
      omega
/-- The machine's calls are Go's. -/
theorem arun_good (K : Cfg) (hext : GoodCall K.P K.ext) (hsafe : RoCall K.ext) (hdr : ∀ n, Draws K.P (K.kd false) (arun K n)) (hname : ∀ (f : FuncId) (fn : Func), K.P.funcs[f]? = some fn → fn.name ≠ "runtime.NumGoroutine") : ∀ n, GoodCall K.P (arun K n) := by
  have hfin : ∀ {n : Nat} {f : FuncId} {args : List AVal} {ro nx : Nat} {hp : Heap} {x : Option Res} {r : Res}, fin K n f nx hp x = some r → (∀ q, x = some q → low K f ro nx ≤ nx → Safe (low K f ro nx) nx hp q.nx q.hp) → ∀ (C : Cx) (B : Nat) (F : Nat → Nat → Prop) (w0 : World) (vs : List Value), C.nx = nx → WRel C B F w0 hp [] #[] →
      (∀ q, x = some q → Ans K.P f vs.toArray C.w (Left C B F w0 q)) → Ans K.P f vs.toArray C.w (Left C B F w0 r) := by
    intro n f args ro nx hp x r hf hx C B F w0 vs hnx h ha
    unfold fin at hf
    split at hf
    · rename_i hp'
      obtain ⟨q, u, rfl, hfz, _, rfl⟩ := sealed_inv hf
      have hl : low K f ro nx = nx := by unfold low; rw [if_pos hp']
      rw [hl] at hx
      subst hnx
      intro o a next Q hn
      exact ha q rfl o a next Q fun v w' hl => hn v w' (hl.shut h hfz (hx q rfl (Nat.le_refl _)).2)
    · split at hf
      · obtain ⟨q, u, rfl, hfz, _, hcl, rfl⟩ := tidied_inv hf
        subst hnx
        intro o a next Q hn
        refine ha q rfl o a next Q fun v w' hl => hn v w' (hl.close hfz (fun id cs c hid hg hm => ?_) (fun id es p hid hg hm => ?_))
        rotate_left
        · have key : ∀ (l : Heap), hclean C.nx l = true → hget l id = some (.map es) → p.1.idsLt C.nx = true ∧ p.2.idsLt C.nx = true := by
            intro l
            induction l with
            | nil => intro _ hg; simp [hget] at hg
            | cons pp l ih =>
              obtain ⟨j, b⟩ := pp
              intro hcl hg
              simp only [hclean, List.all_cons, Bool.and_eq_true] at hcl
              simp only [hget] at hg
              split at hg
              · rename_i e
                cases hg
                have h1 := hcl.1
                rw [← e] at h1
                simp only [hid, decide_true, Bool.not_true, Bool.false_or] at h1
                have := List.all_eq_true.1 h1 p hm
                simpa using this
              · exact ih hcl.2 hg
          exact key q.hp hcl hg
        have key : ∀ (l : Heap), hclean C.nx l = true → hget l id = some (.cells cs) → c.1.idsLt C.nx = true := by
          intro l
          induction l with
          | nil => intro _ hg; simp [hget] at hg
          | cons p l ih =>
            obtain ⟨j, b⟩ := p
            intro hcl hg
            simp only [hclean, List.all_cons, Bool.and_eq_true] at hcl
            simp only [hget] at hg
            split at hg
            · rename_i e
              cases hg
              have h1 := hcl.1
              rw [← e] at h1
              simp only [hid, decide_true, Bool.not_true, Bool.false_or] at h1
              exact List.all_eq_true.1 h1 c hm
            · exact ih hcl.2 hg
        exact key q.hp hcl hg
      · exact ha r hf
  have wrap : ∀ {f : FuncId} {args : List AVal} {ro nx : Nat} {hp : Heap} {r : Res} {g : Nat → Nat → Heap → Option Res}, vlc K f args ro nx hp g = some r → (K.vl f = true → ∀ q, g 0 0 [] = some q → q.nx = 0) →
      (∀ (ro nx : Nat) (hp : Heap) (r : Res), g ro nx hp = some r → ∀ (C : Cx) (B : Nat) (F : Nat → Nat → Prop) (w0 : World) (vs : List Value), C.nx = nx → WRel C B F w0 hp [] #[] → vs.length = args.length → (∀ (i : Nat) (a : AVal) (v : Value), args[i]? = some a → vs[i]? = some v → RV C a v) → Ans K.P f vs.toArray C.w (Left C B F w0 r)) →
      ∀ (C : Cx) (B : Nat) (F : Nat → Nat → Prop) (w0 : World) (vs : List Value), C.nx = nx → WRel C B F w0 hp [] #[] → vs.length = args.length → (∀ (i : Nat) (a : AVal) (v : Value), args[i]? = some a → vs[i]? = some v → RV C a v) → Ans K.P f vs.toArray C.w (Left C B F w0 r) := by
    intro f args ro nx hp r g hv hz hg C B F w0 vs hnx h hl hrv
    unfold vlc at hv
    split at hv
    · rename_i hvl
      split at hv
      · rename_i hi
        cases hx : g 0 0 [] with
        | none => rw [hx] at hv; cases hv
        | some q =>
          rw [hx] at hv
          cases hv
          subst hnx
          have := hg 0 0 [] q hx C.idle C.w.heap.size (OldF C) C.w vs rfl h.idle hl (fun i a v ha hv => RV.noid (D := C) (E := C.idle) (fun _ _ h => h) rfl (hrv i a v ha hv) ((idsLts_iff _ _).1 hi a (List.mem_of_getElem? ha)))
          intro o a next Q hn
          exact this o a next Q fun v w' hl => hn v w' (hl.lift h (hz hvl q hx))
      · cases hv
    · exact hg ro nx hp r hv C B F w0 vs hnx h hl hrv
  have zero : ∀ {f : FuncId} {n : Nat} {x : Option Res} {q : Res}, K.vl f = true → fin K n f 0 [] x = some q → q.nx = 0 := by
    intro f n x q hv hq
    have hp' : K.pure f = true := by unfold Cfg.vl at hv; simp at hv; exact hv.2
    unfold fin at hq
    rw [if_pos hp'] at hq
    obtain ⟨_, _, _, _, _, rfl⟩ := sealed_inv hq
    rfl
  intro n
  induction n with
  | zero =>
    intro f args ro nx hp r hr
    rw [arun.eq_def] at hr
    simp only at hr
    refine wrap hr (fun hv q hq => zero hv hq) fun ro nx hp r hr C B F w0 vs hnx h hl hrv => ?_
    exact hfin (args := args) (ro := ro) hr (fun q hq hle => hsafe _ _ _ _ _ _ hq hle) C B F w0 vs hnx h fun q hq => hext _ _ _ _ _ _ hq C B F w0 vs hnx h hl hrv
  | succ n ih =>
    intro f args ro nx hp r hr
    rw [arun] at hr
    refine wrap hr (fun hv q hq => zero hv hq) fun ro nx hp r hr C B F w0 vs hnx h hl hrv => ?_
    refine hfin (args := args) (ro := ro) hr (fun q hq hle => ?_) C B F w0 vs hnx h fun q hq => ?_
    · unfold core at hq
      cases hx : K.ext f args (low K f ro nx) nx hp with
      | some q' => rw [hx] at hq; cases hq; exact hsafe _ _ _ _ _ _ hx hle
      | none =>
        rw [hx] at hq
        simp only at hq
        cases hf : K.P.funcs[f]? with
        | none => rw [hf] at hq; cases hq
        | some fn => rw [hf] at hq; exact abody_safe (md := ⟨low K f ro nx, K.mu f⟩) (arun_safe K hsafe n) hle hq
    · unfold core at hq
      cases hx : K.ext f args (low K f ro nx) nx hp with
      | some q' => rw [hx] at hq; cases hq; exact hext _ _ _ _ _ _ hx C B F w0 vs hnx h hl hrv
      | none =>
        rw [hx] at hq
        simp only at hq
        cases hf : K.P.funcs[f]? with
        | none => rw [hf] at hq; cases hq
        | some fn => rw [hf] at hq; exact abody_good ih (hdr n) hf (hname f fn hf) hq C B F w0 vs hnx h hl hrv
theorem R_good (K : Cfg) (hext : GoodCall K.P K.ext) (hsafe : RoCall K.ext) (hdr : ∀ n, Draws K.P (K.kd false) (arun K n)) (hname : ∀ (f : FuncId) (fn : Func), K.P.funcs[f]? = some fn → fn.name ≠ "runtime.NumGoroutine") : GoodCall K.P (R K) := by
  intro f args ro nx hp r hr
  obtain ⟨n, hn⟩ := R_iff.1 hr
  exact arun_good K hext hsafe hdr hname n f args ro nx hp r hn
end
end Go.Proofs.YtleimfinniclgaaDoor.M
