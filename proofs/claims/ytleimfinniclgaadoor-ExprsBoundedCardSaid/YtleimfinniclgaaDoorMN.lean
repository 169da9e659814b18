/- The machine is right, operation by operation (2): operations that give a value. -/
import Derived.Test.YtleimfinniclgaaDoorMK
import Derived.Laws.StructEq
namespace Go.Proofs.YtleimfinniclgaaDoor.M
open Go.RowKit
set_option linter.unusedVariables false
set_option linter.unusedSimpArgs false

section
variable {P : Program} {C : Cx} {B : Nat} {F : Nat → Nat → Prop} {w0 : World} {hp : Heap} {tm : List Cell} {ct : Array Value}

theorem val_some {nx : Nat} {hp : Heap} {x : Option AVal} {q : Out} (h : x.map (Out.val nx hp) = some q) : ∃ v, x = some v ∧ q = Out.val nx hp v := by
  cases x with
  | none => cases h
  | some v => injection h with h; exact ⟨v, rfl, h.symm⟩
theorem info_of_underlying {t : TypeId} {d : TypeDesc} (h : P.underlying t = some d) : ∃ i, P.info? t = some i := by
  unfold Program.underlying at h
  cases hi : P.info? t with
  | none => rw [hi] at h; cases h
  | some i => exact ⟨i, rfl⟩
theorem info_of_size {t : TypeId} (h : 0 < sizeT P t) : ∃ i, P.info? t = some i ∧ i.size = sizeT P t := by
  unfold sizeT at h ⊢
  cases hi : P.info? t with
  | none => rw [hi] at h; simp at h
  | some i => exact ⟨i, rfl, rfl⟩
theorem run_sizeT {t : TypeId} {i : TypeInfo} (h : P.info? t = some i) (w : World) : (sizeOf t).run P w = .ok (sizeT P t) w := by
  simp [sizeOf, typeInfo, sizeT, h]
theorem run_isAggT {t : TypeId} {b : Bool} (h : isAggT P t = some b) (w : World) : (isAgg t).run P w = .ok b w := by
  unfold isAggT at h
  unfold isAgg
  cases hu : P.underlying t with
  | none => rw [hu] at h; cases h
  | some d =>
    rw [hu] at h
    simp only [Sem.run_bind, run_underlying hu, Result.andThen_ok]
    cases d <;> simp at h <;> subst h <;> rfl
theorem info_of_agg {t : TypeId} {b : Bool} (h : isAggT P t = some b) : ∃ i, P.info? t = some i := by
  unfold isAggT at h
  cases hu : P.underlying t with
  | none => rw [hu] at h; cases h
  | some d => exact info_of_underlying hu

theorem sound_bin (ds : List Deferred) (op : BinOp) (t : TypeId) (x y : Operand) {a b : AVal} {r : AVal} {u v : Value} (hu : RV C a u) (hv : RV C b v) (h : abin op a b = some r) :
    ∃ z, (do eqGuard op t x y u v; binOp op t u v : Sem Value).run P C.w = .ok z C.w ∧ RV C r z := by
  cases a <;> cases b <;> simp only [abin] at h <;> try (cases h; done)
  · rename_i k n k' n'
    split at h
    · rename_i hk; subst hk
      obtain rfl := hu.int_inv
      obtain rfl := hv.int_inv
      have hg : (eqGuard op t x y (.int k n) (.int k n')).run P C.w = .ok () C.w := by unfold eqGuard; cases op <;> rfl
      cases op <;> simp only [aint] at h <;> try (cases h; done)
      all_goals first
        | (injection h with h; subst h; simp only [Sem.run_bind, hg, Result.andThen_ok, binOp, Op.intArith, Op.intCmp, ne_eq, not_true_eq_false, if_false]; first | exact ⟨_, rfl, M.RV.int _ _⟩ | exact ⟨_, rfl, M.RV.bool _⟩)
        | (split at h
           · cases h
           · rename_i hz
             injection h with h; subst h
             simp only [Sem.run_bind, hg, Result.andThen_ok, binOp, Op.intDiv, ne_eq, not_true_eq_false, if_false, if_neg hz]
             exact ⟨_, rfl, M.RV.int _ _⟩)
    · cases h
  · rename_i s s'
    obtain rfl := hu.str_inv
    obtain rfl := hv.str_inv
    have hg : (eqGuard op t x y (.string s) (.string s')).run P C.w = .ok () C.w := by unfold eqGuard; cases op <;> rfl
    cases op <;> simp only [astr] at h <;> try (cases h; done)
    all_goals first
      | (injection h with h; subst h; simp only [Sem.run_bind, hg, Result.andThen_ok, binOp, Op.stringOp]; exact ⟨_, rfl, M.RV.bool _⟩)
      | (split at h
         · rename_i hl
           injection h with h; subst h
           simp only [Sem.run_bind, hg, Result.andThen_ok, binOp, Op.stringOp]
           rw [if_neg (by simp [IntKind.max, IntKind.signed, IntKind.bits]; omega)]
           exact ⟨_, rfl, M.RV.str _⟩
         · cases h)
theorem sound_un (op : UnOp) {a r : AVal} {u : Value} (hu : RV C a u) (h : aun op a = some r) : ∃ z, (Op.unary op u).run P C.w = .ok z C.w ∧ RV C r z := by
  cases op <;> cases a <;> simp only [aun] at h <;> try (cases h; done)
  all_goals
    injection h with h; subst h
    first
      | (obtain rfl := hu.int_inv; exact ⟨_, rfl, M.RV.int _ _⟩)
      | (obtain rfl := hu.bool_inv; exact ⟨_, rfl, M.RV.bool _⟩)
theorem sound_field_addr (t : TypeId) (f : Nat) {a r : AVal} {u : Value} (hu : RV C a u) (h : afield P t a f = some r) : ∃ z, (Instr.fieldAt t u f).run P C.w = .ok z C.w ∧ RV C r z := by
  unfold afield at h
  cases hd : P.underlying t with
  | none => rw [hd] at h; cases h
  | some d =>
    rw [hd] at h
    cases d <;> (try simp only at h) <;> try (cases h; done)
    rename_i fs
    cases hf : fs[f]? with
    | none => rw [hf] at h; cases h
    | some fd =>
      rw [hf] at h
      simp only at h
      split at h
      · rename_i hz
        obtain ⟨i, hi, _⟩ := info_of_size hz
        have hz' : sizeT P fd.type ≠ 0 := by omega
        cases a <;> simp only [ashift] at h <;> try (cases h; done)
        · rename_i id off
          injection h with h; subst h
          obtain ⟨rfl, hid⟩ := hu.ptr_inv
          refine ⟨.pointer (some ⟨C.ι id, off + fd.offset, none⟩), ?_, .ptr _ _ hid⟩
          simp [Instr.fieldAt, run_underlying hd, hf, Instr.sureAddr, fieldPlace, run_sizeT hi, hz', add_at]
        · rename_i e off
          injection h with h; subst h
          obtain ⟨b, o, rfl, h1, cu, hm, hr⟩ := hu.pel_inv
          refine ⟨.pointer (some ⟨b, o + (off + fd.offset), none⟩), ?_, .pel e _ b o cu h1 hm hr⟩
          simp [Instr.fieldAt, run_underlying hd, hf, Instr.sureAddr, fieldPlace, run_sizeT hi, hz', add_at, Nat.add_assoc]
      · cases h
theorem sound_index_addr (t : TypeId) {a i r : AVal} {u v : Value} (hu : RV C a u) (hv : RV C i v) (h : aindexa P t a i = some r) : ∃ z, (Instr.indexAt t u v).run P C.w = .ok z C.w ∧ RV C r z := by
  cases a <;> cases i <;> simp only [aindexa] at h <;> try (cases h; done)
  case sl.int id off len sz ag k n =>
    split at h
    · rename_i h0
      cases hd : P.underlying t with
      | none => rw [hd] at h; cases h
      | some d =>
        rw [hd] at h
        cases d <;> (try simp only at h) <;> try (cases h; done)
        rename_i el
        split at h
        · rename_i hsz
          injection h with h; subst h
          obtain rfl := hv.int_inv
          obtain ⟨c, rfl, hid, hc, hx⟩ := hu.sl_inv
          obtain ⟨ti, hti, _⟩ := info_of_size (P := P) (t := el) (by omega)
          refine ⟨.pointer (some ⟨C.ι id, off + n.toNat * sz, none⟩), ?_, .ptr id _ hid⟩
          simp [Instr.indexAt, asIntOf, run_underlying hd, h0.1, h0.2, run_sizeT hti, add_at, ← hsz.1]
        · cases h
    · cases h
  rename_i xs k n
  split at h
  · rename_i h0
    cases hx : xs[n.toNat]? with
    | none => rw [hx] at h; cases h
    | some e =>
      rw [hx] at h
      cases hd : P.underlying t with
      | none => rw [hd] at h; cases h
      | some d =>
        rw [hd] at h
        cases d <;> (try simp only at h) <;> try (cases h; done)
        rename_i el
        split at h
        · rename_i hsz
          injection h with h; subst h
          obtain rfl := hv.int_inv
          obtain ⟨A, c, sz, rfl, hc, hpz, hs, h1, vs, hvl, hvm, hvr⟩ := hu.lst_inv
          have hmem : e ∈ xs := List.mem_of_getElem? hx
          have hlt : n.toNat < xs.length := (List.getElem?_eq_some_iff.1 hx).1
          have hse := hs e hmem
          have hzpos : 0 < sz := hpz (List.ne_nil_of_mem hmem)
          obtain ⟨ti, hti, _⟩ := info_of_size (P := P) (t := el) (by omega)
          have hfl := flats_len hs
          have hjb : n.toNat * sz < vs.length := by
            rw [hvl, hfl]
            exact Nat.mul_lt_mul_of_pos_right hlt hzpos
          obtain ⟨b, o, rfl, _, _⟩ := hvm 0 _ (List.getElem?_eq_getElem (by omega))
          have hel : ∀ j, j < sz → (flats xs)[n.toNat * sz + j]? = e.flat[j]? := by
            intro j hj
            have hg : ∀ (l : List AVal) (k : Nat), (∀ x, x ∈ l → x.flat.length = sz) → l[k]? = some e → (flats l)[k * sz + j]? = e.flat[j]? := by
              intro l
              induction l with
              | nil => intro k _ hk; simp at hk
              | cons y l ih =>
                intro k hl hk
                have hy := hl y (List.mem_cons_self ..)
                cases k with
                | zero =>
                  simp at hk; subst hk
                  simp only [flats, List.flatMap_cons, Nat.zero_mul, Nat.zero_add]
                  rw [List.getElem?_append_left (by omega)]
                | succ k =>
                  simp only [List.getElem?_cons_succ] at hk
                  have := ih k (fun x hx => hl x (List.mem_cons_of_mem _ hx)) hk
                  simp only [flats, List.flatMap_cons]
                  rw [List.getElem?_append_right (by rw [hy, Nat.add_mul]; omega), hy, show (k + 1) * sz + j - sz = k * sz + j by rw [Nat.add_mul]; omega]
                  exact this
            exact hg xs n.toNat hs hx
          refine ⟨.pointer (some ⟨b, o + n.toNat * sz + 0, none⟩), ?_, RV.pel e 0 b (o + n.toNat * sz) (fun j => vs.getD (n.toNat * sz + j) undef) (fun u hu => ?_) (fun j u hj => ?_) (fun j u hj => ?_)⟩
          · have hn : n < (xs.length : Int) := by omega
            simp [Instr.indexAt, asIntOf, run_underlying hd, h0, hn, run_sizeT hti, add_at, ← hsz, hse]
          · obtain ⟨j, hj⟩ := List.getElem?_of_mem hu
            have hjl : j < sz := by have := (List.getElem?_eq_some_iff.1 hj).1; omega
            exact h1 u (List.mem_of_getElem? ((hel j hjl).trans hj))
          · have hjl : j < sz := by have := (List.getElem?_eq_some_iff.1 hj).1; omega
            have hq := (hel j hjl).trans hj
            have hql := (List.getElem?_eq_some_iff.1 hq).1
            have hv' : vs[n.toNat * sz + j]? = some (vs.getD (n.toNat * sz + j) undef) := by rw [List.getD_eq_getElem?_getD, List.getElem?_eq_getElem (by omega)]; rfl
            obtain ⟨b', o', e1, e2, e3⟩ := hvm _ _ hv'
            injection e1 with e1; injection e1 with e1 e1'; subst e1 e1'
            rw [Nat.add_assoc]
            exact ⟨e2, e3⟩
          · have hjl : j < sz := by have := (List.getElem?_eq_some_iff.1 hj).1; omega
            have hq := (hel j hjl).trans hj
            have hql := (List.getElem?_eq_some_iff.1 hq).1
            exact hvr _ _ _ hq (by rw [List.getD_eq_getElem?_getD, List.getElem?_eq_getElem (by omega)]; rfl)
        · cases h
  · cases h
theorem sound_index (t : TypeId) {a i r : AVal} {u v : Value} (hu : RV C a u) (hv : RV C i v) (h : aindex P t a i = some r) : ∃ z, (Instr.index t u v).run P C.w = .ok z C.w ∧ RV C r z := by
  cases a <;> cases i <;> simp only [aindex] at h <;> try (cases h; done)
  rename_i s k n
  obtain rfl := hu.str_inv
  obtain rfl := hv.int_inv
  split at h
  · rename_i h0
    cases hd : P.underlying t with
    | none => rw [hd] at h; cases h
    | some d =>
      rw [hd] at h
      cases d <;> (try simp only at h) <;> try (cases h; done)
      cases hb : s[n.toNat]? with
      | none => rw [hb] at h; cases h
      | some b =>
        rw [hb] at h
        injection h with h; subst h
        exact ⟨.int .u8 b.toNat, by simp [Instr.index, asIntOf, run_underlying hd, h0, hb], M.RV.int _ _⟩
  · cases h
/-- Cells of a value that lies together. -/
theorem sound_pick (t : TypeId) {cs : List AVal} {off : Nat} {r : AVal} {vs : List Value} (hl : vs.length = cs.length) (h1 : ∀ a, a ∈ cs → a.one = true) (hv : ∀ (i : Nat) a u, cs[i]? = some a → vs[i]? = some u → RV C a u) (h : pick P t cs off = some r) :
    ∃ z, (part t vs.toArray off).run P C.w = .ok z C.w ∧ RV C r z := by
  unfold pick at h
  cases hg : isAggT P t with
  | none => rw [hg] at h; cases h
  | some b =>
    rw [hg] at h
    obtain ⟨i, hi⟩ := info_of_agg hg
    cases b with
    | true =>
      simp only at h
      split at h
      · rename_i hle
        injection h with h; subst h
        refine ⟨.agg (vs.toArray.extract off (off + sizeT P t)), by simp [part, run_isAggT hg, run_sizeT hi], ?_⟩
        have e : vs.toArray.extract off (off + sizeT P t) = ((vs.drop off).take (sizeT P t)).toArray := by
          simp [List.extract_toArray, List.extract_eq_take_drop]
        rw [e]
        refine .agg _ _ (by simp [hl]) (fun a ha => h1 a (List.mem_of_mem_drop (List.mem_of_mem_take ha))) (fun j a u ha hu => ?_)
        rw [List.getElem?_take] at ha hu
        split at ha
        · rename_i hj
          rw [if_pos hj] at hu
          rw [List.getElem?_drop] at ha hu
          exact hv _ _ _ ha hu
        · cases ha
      · cases h
    | false =>
      simp only at h
      have hlt := (List.getElem?_eq_some_iff.1 h).1
      refine ⟨vs[off]'(by omega), ?_, hv off _ _ h (List.getElem?_eq_getElem (by omega))⟩
      simp [part, run_isAggT hg, List.getElem?_eq_getElem (show off < vs.length by omega)]
theorem sound_eq1 (d : Nat) (t : TypeId) {a b : AVal} {r : Bool} {u v : Value} (hu : RV C a u) (hv : RV C b v) (h : aeq1 P t a b = some r) : (Op.equalIn (d + 1) t u v).run P C.w = .ok r C.w := by
  cases a <;> cases b <;> simp only [aeq1] at h <;> try (cases h; done)
  · obtain rfl := hu.int_inv
    obtain rfl := hv.int_inv
    split at h
    · rename_i k' hd
      split at h
      · rename_i hk
        injection h with h; subst h hk
        exact run_equalIn_int _ d t _ k' _ _ hd
      · cases h
    · cases h
  · obtain rfl := hu.bool_inv
    obtain rfl := hv.bool_inv
    split at h
    · rename_i hd
      injection h with h; subst h
      exact run_equalIn_bool' _ d t _ _ hd
    · cases h
  · obtain rfl := hu.str_inv
    obtain rfl := hv.str_inv
    split at h
    · rename_i hd
      injection h with h; subst h
      exact run_equalIn_string _ d t _ _ hd
    · cases h
theorem sound_eqFs (d : Nat) {xs ys : List AVal} {us vs : List Value} (hu : RV C (.agg xs) (.agg us.toArray)) (hv : RV C (.agg ys) (.agg vs.toArray)) : ∀ (l : List Field) {r : Bool}, aeqFs P xs ys l = some r → (Op.eqFields (d + 1) us.toArray vs.toArray l).run P C.w = .ok r C.w := by
  obtain ⟨us', e1, ul, u1, ur⟩ := hu.agg_inv
  injection e1 with e1
  have e1 : us = us' := by simpa using e1
  subst e1
  obtain ⟨vs', e2, vl, v1, vr⟩ := hv.agg_inv
  injection e2 with e2
  have e2 : vs = vs' := by simpa using e2
  subst e2
  intro l
  induction l with
  | nil => intro r h; cases h; rfl
  | cons f l ih =>
    intro r h
    simp only [aeqFs] at h
    simp only [Op.eqFields]
    split at h
    · rename_i hn
      rw [if_pos hn]
      split at h
      · rename_i a b ha hb
        obtain ⟨p, hp, hrp⟩ := sound_pick (P := P) f.type ul u1 ur ha
        obtain ⟨q, hq, hrq⟩ := sound_pick (P := P) f.type vl v1 vr hb
        simp only [Sem.run_bind, hp, hq, Result.andThen_ok]
        split at h
        · rename_i he
          rw [sound_eq1 (P := P) d f.type hrp hrq he]
          simp only [Result.andThen_ok, Bool.not_true, Bool.false_eq_true, if_false]
          exact ih h
        · rename_i he
          cases h
          rw [sound_eq1 (P := P) d f.type hrp hrq he]
          simp only [Result.andThen_ok, Bool.not_false, if_true, Sem.run_pure]
        · cases h
      · cases h
    · rename_i hn
      rw [if_neg hn]
      exact ih h
theorem sound_binT (ds : List Deferred) (op : BinOp) (t : TypeId) (x y : Operand) {a b : AVal} {r : AVal} {u v : Value} (hu : RV C a u) (hv : RV C b v) (h : abinT P t op a b = some r) :
    ∃ z, (do eqGuard op t x y u v; binOp op t u v : Sem Value).run P C.w = .ok z C.w ∧ RV C r z := by
  have key : ∀ (q : Bool), (eqGuard op t x y u v).run P C.w = .ok () C.w → (Op.equal t u v).run P C.w = .ok q C.w → (∀ op', binOp .eql t u v = (do pure (.bool (← Op.equal t u v))) ∧ binOp .neq t u v = (do pure (.bool (!(← Op.equal t u v)))) ∨ op' = op) →
      (op = .eql ∧ r = .bool q ∨ op = .neq ∧ r = .bool !q) → binOp .eql t u v = (do pure (.bool (← Op.equal t u v))) → binOp .neq t u v = (do pure (.bool (!(← Op.equal t u v)))) →
      ∃ z, (do eqGuard op t x y u v; binOp op t u v : Sem Value).run P C.w = .ok z C.w ∧ RV C r z := by
    intro q hg he _ hor e1 e2
    rcases hor with ⟨rfl, rfl⟩ | ⟨rfl, rfl⟩
    · exact ⟨_, by simp only [Sem.run_bind, hg, Result.andThen_ok, e1, he, Sem.run_pure], .bool _⟩
    · exact ⟨_, by simp only [Sem.run_bind, hg, Result.andThen_ok, e2, he, Sem.run_pure], .bool _⟩
  unfold abinT at h
  split at h
  · exact sound_bin ds op t x y hu hv h
  · exact sound_bin ds op t x y hu hv h
  · have hex : ∃ q, aeq P t a b = some q ∧ (op = .eql ∧ r = .bool q ∨ op = .neq ∧ r = .bool !q) := by
      clear key
      cases op <;> simp only at h <;> try (cases h; done)
      · obtain ⟨q, hq, e⟩ := Option.map_eq_some_iff.1 h
        exact ⟨q, hq, .inl ⟨rfl, e.symm⟩⟩
      · obtain ⟨q, hq, e⟩ := Option.map_eq_some_iff.1 h
        exact ⟨q, hq, .inr ⟨rfl, e.symm⟩⟩
    obtain ⟨q, hq, hor⟩ := hex
    unfold aeq at hq
    split at hq
    · rename_i xs ys
      split at hq
      · rename_i fs hd
        split at hq
        · rename_i hc
          obtain ⟨us, rfl, _⟩ := hu.agg_inv
          obtain ⟨vs, rfl, _⟩ := hv.agg_inv
          have hfs : P.fieldsOf t = fs := by unfold Program.fieldsOf; rw [hd]
          have he : (Op.equal t (.agg us.toArray) (.agg vs.toArray)).run P C.w = .ok q C.w := by
            show (Op.equalIn (9999 + 1) t _ _).run P C.w = _
            rw [run_equalIn_struct C.w 9999 t _ _ (by rw [hfs]; exact hd) hc.1, hfs]
            exact sound_eqFs (P := P) 9998 hu hv _ hq
          exact key q (run_eqGuard_agg C.w op t x y _ _ hc.2) he (fun _ => .inl ⟨rfl, rfl⟩) hor rfl rfl
        · cases hq
      · cases hq
    · obtain rfl := hu.bool_inv
      obtain rfl := hv.bool_inv
      have he : (Op.equal t (.bool _) (.bool _)).run P C.w = .ok q C.w := sound_eq1 (P := P) 9999 t hu hv hq
      exact key q (by unfold eqGuard; cases op <;> rfl) he (fun _ => .inl ⟨rfl, rfl⟩) hor rfl rfl
    · cases hq
theorem sound_field (t : TypeId) (f : Nat) {a r : AVal} {u : Value} (hu : RV C a u) (h : afieldv P t a f = some r) : ∃ z, (Instr.field t u f).run P C.w = .ok z C.w ∧ RV C r z := by
  unfold afieldv at h
  cases hd : P.underlying t with
  | none => rw [hd] at h; cases h
  | some d =>
    rw [hd] at h
    cases d <;> (try simp only at h) <;> try (cases h; done)
    cases a <;> (try simp only at h) <;> try (cases h; done)
    rename_i fs cs
    cases hf : fs[f]? with
    | none => rw [hf] at h; cases h
    | some fd =>
      rw [hf] at h
      obtain ⟨vs, rfl, hl, h1, hv⟩ := hu.agg_inv
      obtain ⟨z, hz, hr⟩ := sound_pick (P := P) fd.type hl h1 hv h
      exact ⟨z, by simp [Instr.field, run_underlying hd, hf, asAgg, hz], hr⟩
/-- An element of a list that lies in memory is loaded. -/
theorem sound_load_pel (t : TypeId) {e : AVal} {off : Nat} {r : AVal} {u : Value} (hu : RV C (.pel e off) u) (h : pick P t e.flat off = some r) : ∃ z, (Instr.loadAt t u).run P C.w = .ok z C.w ∧ RV C r z := by
  obtain ⟨b, o, rfl, h1, cu, hm, hr⟩ := hu.pel_inv
  unfold pick at h
  cases hg : isAggT P t with
  | none => rw [hg] at h; cases h
  | some q =>
    rw [hg] at h
    obtain ⟨i, hi⟩ := info_of_agg hg
    cases q with
    | true =>
      simp only at h
      split at h
      · rename_i hle
        injection h with h; subst h
        have hf : ∀ j, j < sizeT P t → C.w.cell? ((⟨b, o + off, none⟩ : Addr).add j) = some (cu (off + j)) := fun j hj => by
          rw [add_at, Nat.add_assoc]
          exact (hm (off + j) _ (List.getElem?_eq_getElem (by omega))).2
        have hrun := run_loadCells (P := P) C.w ⟨b, o + off, none⟩ (sizeT P t) (fun j => cu (off + j)) hf
        refine ⟨.agg ((List.range (sizeT P t)).map fun j => cu (off + j)).toArray, by simp [Instr.loadAt, Instr.sureAddr, loadVar, run_isAggT hg, run_sizeT hi, hrun], ?_⟩
        refine .agg _ _ (by simp; omega) (fun a ha => h1 a (List.mem_of_mem_drop (List.mem_of_mem_take ha))) (fun j a v ha hv => ?_)
        rw [List.getElem?_take] at ha
        split at ha
        · rename_i hj
          rw [List.getElem?_drop] at ha
          rw [List.getElem?_map, List.getElem?_range hj] at hv
          injection hv with hv; subst hv
          exact hr _ _ ha
        · cases ha
      · cases h
    | false =>
      simp only at h
      obtain ⟨_, hc⟩ := hm off _ h
      refine ⟨cu off, ?_, hr off _ h⟩
      simp [Instr.loadAt, Instr.sureAddr, loadVar, run_isAggT hg, run_load, load, hc, Sem.run]
end
end Go.Proofs.YtleimfinniclgaaDoor.M
