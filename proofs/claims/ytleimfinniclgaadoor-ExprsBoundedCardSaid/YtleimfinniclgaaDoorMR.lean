/- The machine is right: builtins, calls. -/
import Derived.Test.YtleimfinniclgaaDoorML
namespace Go.Proofs.YtleimfinniclgaaDoor.M
open Go.RowKit
set_option linter.unusedVariables false
set_option linter.unusedSimpArgs false

section
variable {P : Program} {C : Cx} {B : Nat} {F : Nat → Nat → Prop} {w0 : World} {hp : Heap} {tm : List Cell} {ct : Array Value}

theorem run_builtin (ρ : Operand → Value) (b : Builtin) (args : Array Operand) (ts : Array TypeId) (dst : Option Tmp) (type : TypeId) (pos : String) (after : Array Edge) (guard : Option (Nat × Bool)) :
    execOp ρ ⟨dst, .call { callee := .builtin b, args := args, argTypes := ts }, type, pos, after, guard⟩ = builtin b ts type (args.map fun | .const _ => true | _ => false) (args.map ρ) := rfl
theorem sound_min (f : AVal → AVal → Option AVal) (g : Value → Value → Sem Value) (hfg : ∀ a b r u v, f a b = some r → RV C a u → RV C b v → ∃ z, (g u v).run P C.w = .ok z C.w ∧ RV C r z) (h : WRel C B F w0 hp tm ct) (ds : List Deferred) :
    ∀ (l : List Operand) (a : AVal) (u : Value) {r : AVal}, RV C a u → l.foldlM (fun a y => f a (ev tm y).1) a = some r → ∃ z, ((l.map (Act.eval ⟨ct, ds⟩)).foldlM g u).run P C.w = .ok z C.w ∧ RV C r z := by
  intro l
  induction l with
  | nil => intro a u r hu h; simp only [List.foldlM] at h; injection h with h; subst h; exact ⟨u, rfl, hu⟩
  | cons y l ih =>
    intro a u r hu hr
    simp only [List.foldlM_cons] at hr
    obtain ⟨b, hb, hr⟩ := Option.bind_eq_some_iff.1 hr
    obtain ⟨z, hz, hbz⟩ := hfg _ _ _ _ _ hb hu (h.ev y ds)
    obtain ⟨z', hz', hr'⟩ := ih b z hbz hr
    exact ⟨z', by simp [List.foldlM_cons, hz, hz'], hr'⟩
theorem map_list {α β : Type} (a : Array α) (f : α → β) {l : List α} (h : a.toList = l) : a.map f = (l.map f).toArray := by
  apply Array.ext'
  simp [h]
theorem arr_list {α : Type} (a : Array α) {l : List α} (h : a.toList = l) : a = l.toArray := by
  apply Array.ext'
  simp [h]
theorem RV.nilm_inv {u : Value} (h : RV C .nilm u) : u = .map none := by cases h; rfl
theorem slot_of {u : Tmp} {v : AVal} {f : Bool} (hu : M.ev tm (.tmp u) = (v, f)) (hv : v ≠ .bad) : tm[u]? = some (v, f) := by
  simp only [M.ev] at hu
  cases ht : tm[u]? with
  | none => rw [ht] at hu; simp at hu; exact absurd hu.1.symm hv
  | some c => rw [ht] at hu; simp at hu; rw [hu]
theorem eval_slot (ds : List Deferred) {u : Tmp} {cx : Value} (hcx : ct[u]? = some cx) : Act.eval ⟨ct, ds⟩ (.tmp u) = cx := by
  have hlt := (Array.getElem?_eq_some_iff.1 hcx).1
  have he := (Array.getElem?_eq_some_iff.1 hcx).2
  simp [Act.eval, Array.getD, hlt, he]
theorem sound_appendO (h : WRel C B F w0 hp tm ct) (ds : List Deferred) (args : Array Operand) (ts : Array TypeId) (dst : Option Tmp) (type : TypeId) {u : Tmp} {y : Operand} {xs : List AVal} (hal : args.toList = [.tmp u, y]) (hu : M.ev tm (.tmp u) = (.lst xs, true)) {q : Out} (hq : aappendO P ts.toList xs (M.ev tm y).1 (some u) C.nx hp = some q) :
    Done C B F w0 tm ⟨ct, ds⟩ dst q ((builtin .append ts type (args.map fun | .const _ => true | _ => false) (args.map (Act.eval ⟨ct, ds⟩))).run P C.w) := by
  unfold aappendO at hq
  split at hq
  · rename_i ys t t2 hy htl
    split at hq
    · rename_i e2 hu2
      obtain ⟨r, hr, rfl⟩ := Option.map_eq_some_iff.1 hq
      unfold aappend at hr
      split at hr
      · rename_i e hue
        split at hr
        · rename_i i hi
          split at hr
          · rename_i hc
            obtain ⟨c1, c2, c3, c4, c5⟩ := hc
            injection hr with hr; subst hr
            have htu : tm[u]? = some (.lst xs, true) := by
              simp only [M.ev] at hu
              cases ht : tm[u]? with
              | none => rw [ht] at hu; simp at hu
              | some c => rw [ht] at hu; simp at hu; rw [hu]
            obtain ⟨cx, hcx, _⟩ := h.tmp u _ htu
            have hev : Act.eval ⟨ct, ds⟩ (.tmp u) = cx := by
              have hlt := (Array.getElem?_eq_some_iff.1 hcx).1
              have he := (Array.getElem?_eq_some_iff.1 hcx).2
              simp [Act.eval, Array.getD, hlt, he]
            have hyv := h.ev y ds
            rw [hy] at hyv
            obtain ⟨z, hz⟩ : ∃ z, i.zero = some z := by
              unfold zeroOk at c4
              cases hz : i.zero with
              | none => rw [hz] at c4; cases c4
              | some z => exact ⟨z, rfl⟩
            have hzs : z.cells.size = i.size := by unfold zeroOk at c4; rw [hz] at c4; simpa using c4
            obtain ⟨D, cv, hrun, le, hnx, hW, hrv, hown, hsep⟩ := h.append (P := P) htu hcx hyv t t2 type e e2 i z hue hu2 hi hz hzs c1 (fun x r hx => by rw [hx] at c2; simpa [headOk] using c2) (fun x r hx => by rw [hx] at c3; simpa [headOk] using c3) c5
            have hrun' : (Builtin.append_ ts type (args.map (Act.eval ⟨ct, ds⟩))).run P C.w = .ok cv D.w := by
              rw [map_list args _ hal, arr_list ts htl]
              simp only [List.map_cons, List.map_nil, hev]
              exact hrun
            rw [show builtin .append ts type (args.map fun | .const _ => true | _ => false) (args.map (Act.eval ⟨ct, ds⟩)) = (do pure (Next.value (← Builtin.append_ ts type (args.map (Act.eval ⟨ct, ds⟩))))) from rfl, run_value hrun']
            refine ⟨D, _, cv, rfl, .inl rfl, le, hnx, ?_, put_defers _ _ _⟩
            cases dst with
            | none => simp only [Out.put, unflag_some htu]; exact hW
            | some d => simp only [Out.put, unflag_some htu]; exact hW.puto d hrv hown (fun k v' cv' ho _ => hsep k v' cv' ho)
          · cases hr
        · cases hr
      · cases hr
    · cases hq
  · cases hq
theorem own_nil (A : Option Addr) : OwnOk C B F hp (.lst []) (.slice A 0 0) ∧ ∀ b o, ¬ Tail (.lst []) (.slice A 0 0) b o := by
  have ht : ∀ b o, ¬ Tail (.lst []) (.slice A 0 0) b o := by
    rintro b o ⟨xs, a, n, c, x, r, h1, _, h3, _⟩
    injection h1 with h1
    rw [← h1] at h3
    cases h3
  exact ⟨⟨⟨[], A, 0, 0, rfl, rfl, fun _ => rfl⟩, fun b o t => absurd t (ht b o)⟩, ht⟩
/-- A slot more, that holds nil. -/
theorem WRel.more (h : WRel C B F w0 hp tm ct) : WRel C B F w0 hp (tm ++ [(.lst [], true)]) (ct.push (.slice none 0 0)) := by
  have h1 : WRel C B F w0 hp (tm ++ [(.lst [], false)]) (ct.push (.slice none 0 0)) := by
    refine h.slots (by simp [h.size]) (fun t c ht => ?_) id (fun t v cv ht hc => ?_) (fun t t' _ _ _ _ e => e)
    · rcases Nat.lt_or_ge t tm.length with hlt | hge
      · rw [List.getElem?_append_left hlt] at ht
        obtain ⟨v, q1, q2⟩ := h.tmp t c ht
        exact ⟨v, by rw [Array.getElem?_push_lt (by rw [h.size]; exact hlt)]; rw [← q1]; exact (Array.getElem?_eq_getElem _).symm, q2⟩
      · rw [List.getElem?_append_right hge] at ht
        have e : t = tm.length := by
          have := (List.getElem?_eq_some_iff.1 ht).1
          simp at this
          omega
        subst e
        simp at ht; subst ht
        exact ⟨.slice none 0 0, by rw [← h.size]; simp, by have := RV.ofCell (C := C) (.slice none 0 0); exact this⟩
    · rcases Nat.lt_or_ge t tm.length with hlt | hge
      · rw [List.getElem?_append_left hlt] at ht
        refine ⟨ht, ?_⟩
        rw [Array.getElem?_push, if_neg (by rw [h.size]; omega)] at hc
        exact hc
      · rw [List.getElem?_append_right hge] at ht
        have := (List.getElem?_eq_some_iff.1 ht).1
        simp at this
        rw [show t - tm.length = 0 by omega] at ht
        simp at ht
  obtain ⟨o1, o2⟩ := own_nil (C := C) (B := B) (F := F) (hp := hp) none
  have h2 := h1.puto tm.length (v := .lst []) (cv := .slice none 0 0) (by have := RV.ofCell (C := C) (.slice none 0 0); exact this) o1 (fun k v' cv' _ _ b o t => absurd t (o2 b o))
  have e1 : (tm ++ [((.lst [] : AVal), false)]).set tm.length (.lst [], true) = tm ++ [(.lst [], true)] := by simp
  have e2 : (ct.push (.slice none 0 0)).setIfInBounds tm.length (.slice none 0 0) = ct.push (.slice none 0 0) := by
    apply Array.ext_getElem?
    intro i
    rw [Array.getElem?_setIfInBounds]
    split
    · rename_i e; subst e
      rw [← h.size]; simp
    · rfl
  rw [e1, e2] at h2
  exact h2
theorem WRel.less {c : Cell} {x : Value} (h : WRel C B F w0 hp (tm ++ [c]) (ct.push x)) : WRel C B F w0 hp tm ct := by
  have hs : ct.size = tm.length := by have := h.size; simp at this; omega
  refine h.slots hs (fun t c ht => ?_) id (fun t v cv ht hc => ?_) (fun t t' _ _ _ _ e => e)
  · have hlt := (List.getElem?_eq_some_iff.1 ht).1
    obtain ⟨v, q1, q2⟩ := h.tmp t c (by rw [List.getElem?_append_left hlt]; exact ht)
    rw [Array.getElem?_push, if_neg (by omega)] at q1
    exact ⟨v, q1, q2⟩
  · have hlt := (List.getElem?_eq_some_iff.1 ht).1
    exact ⟨by show (tm ++ [_])[t]? = _; rw [List.getElem?_append_left hlt]; exact ht, by show (ct.push x)[t]? = _; rw [Array.getElem?_push, if_neg (by omega)]; exact hc⟩
theorem Owned.more (hs : ct.size = tm.length) {c : Cell} {x : Value} {k : Nat × Nat} {v : AVal} {cv : Value} (h : Owned C hp tm ct k v cv) : Owned C hp (tm ++ [c]) (ct.push x) k v cv := by
  obtain ⟨i, t⟩ := k
  cases i with
  | succ id => exact h
  | zero =>
    have hlt := (List.getElem?_eq_some_iff.1 h.1).1
    exact ⟨by rw [List.getElem?_append_left hlt]; exact h.1, by rw [Array.getElem?_push, if_neg (by omega)]; exact h.2⟩
theorem zeroOk_inv {i : TypeInfo} (h : zeroOk i = true) : ∃ z, i.zero = some z ∧ z.cells.size = i.size := by
  unfold zeroOk at h
  cases hz : i.zero with
  | none => rw [hz] at h; cases h
  | some z => rw [hz] at h; exact ⟨z, rfl, by simpa using h⟩
theorem sound_appendC (h : WRel C B F w0 hp tm ct) (ds : List Deferred) (args : Array Operand) (ts : Array TypeId) (dst : Option Tmp) (type : TypeId) {u : Value} {y : Operand} (hal : args.toList = [.const u, y]) (hu : M.ev tm (.const u) = (.lst [], true)) {q : Out} (hq : aappendO P ts.toList [] (M.ev tm y).1 none C.nx hp = some q) :
    Done C B F w0 tm ⟨ct, ds⟩ dst q ((builtin .append ts type (args.map fun | .const _ => true | _ => false) (args.map (Act.eval ⟨ct, ds⟩))).run P C.w) := by
  have hnil : u = .slice none 0 0 := by
    simp only [M.ev] at hu
    injection hu with _ hu
    exact isNil_eq hu
  subst hnil
  unfold aappendO at hq
  split at hq
  · rename_i ys t t2 hy htl
    split at hq
    · rename_i e2 hu2
      obtain ⟨r, hr, rfl⟩ := Option.map_eq_some_iff.1 hq
      unfold aappend at hr
      split at hr
      · rename_i e hue
        split at hr
        · rename_i i hi
          split at hr
          · rename_i hc
            obtain ⟨c1, c2, c3, c4, c5⟩ := hc
            injection hr with hr; subst hr
            have hyv := h.ev y ds
            rw [hy] at hyv
            obtain ⟨z, hz, hzs⟩ := zeroOk_inv c4
            have hm := h.more
            obtain ⟨D, cv, hrun, le, hnx, hW, hrv, hown, hsep⟩ := hm.append (P := P) (s := tm.length) (xs := []) (cx := .slice none 0 0) (by simp) (by rw [← h.size]; simp) hyv t t2 type e e2 i z hue hu2 hi hz hzs c1 (fun x r hx => by cases hx) (fun x r hx => by rw [hx] at c3; simpa [headOk] using c3) (by simpa using c5)
            have hrun' : (Builtin.append_ ts type (args.map (Act.eval ⟨ct, ds⟩))).run P C.w = .ok cv D.w := by
              rw [map_list args _ hal, arr_list ts htl]
              simp only [List.map_cons, List.map_nil]
              exact hrun
            rw [show builtin .append ts type (args.map fun | .const _ => true | _ => false) (args.map (Act.eval ⟨ct, ds⟩)) = (do pure (Next.value (← Builtin.append_ ts type (args.map (Act.eval ⟨ct, ds⟩))))) from rfl, run_value hrun']
            have e1 : (tm ++ [((.lst [] : AVal), true)]).set tm.length (.lst [], false) = tm ++ [(.lst [], false)] := by simp
            rw [e1] at hW hsep
            have hL := hW.less
            refine ⟨D, _, cv, rfl, .inl rfl, le, hnx, ?_, put_defers _ _ _⟩
            cases dst with
            | none => simp only [Out.put]; exact hL
            | some d => simp only [Out.put]; exact hL.puto d hrv hown (fun k v' cv' ho _ => hsep k v' cv' (ho.more hL.size))
          · cases hr
        · cases hr
      · cases hr
    · cases hq
  · cases hq
theorem sound_appendM (h : WRel C B F w0 hp tm ct) (ds : List Deferred) (lo : Nat) (args : Array Operand) (ts : Array TypeId) (dst : Option Tmp) (type : TypeId) {x y : Operand} (hal : args.toList = [x, y]) {q : Out} (hq : aappendM P lo ts.toList x (M.ev tm x) (M.ev tm y).1 C.nx hp = some q) :
    Done C B F w0 tm ⟨ct, ds⟩ dst q ((builtin .append ts type (args.map fun | .const _ => true | _ => false) (args.map (Act.eval ⟨ct, ds⟩))).run P C.w) := by
  unfold aappendM at hq
  split at hq
  rotate_left
  · cases hq
  rename_i t t2 htl
  split at hq
  rotate_left
  · cases hq
  rename_i e e2 hue hu2
  split at hq
  rotate_left
  · cases hq
  rename_i i ag k ys hi hag hcy
  split at hq
  rotate_left
  · cases hq
  rename_i hc
  obtain ⟨c1, c2, c3⟩ := hc
  obtain ⟨z, hz, hzs⟩ := zeroOk_inv c3
  have hyv := h.ev y ds
  have hxv := h.ev x ds
  have fin : ∀ (q : Out) (D : Cx) (cv : Value), (Builtin.append_ #[t, t2] type #[Act.eval ⟨ct, ds⟩ x, Act.eval ⟨ct, ds⟩ y]).run P C.w = .ok cv D.w → C.Le D → D.nx = q.nx → (WRel D B F w0 q.hp (q.put dst tm).tm ((⟨ct, ds⟩ : Act).put dst cv).tmps) →
      Done C B F w0 tm ⟨ct, ds⟩ dst q ((builtin .append ts type (args.map fun | .const _ => true | _ => false) (args.map (Act.eval ⟨ct, ds⟩))).run P C.w) := by
    intro q D cv hrun le hnx hW
    have hrun' : (Builtin.append_ ts type (args.map (Act.eval ⟨ct, ds⟩))).run P C.w = .ok cv D.w := by
      rw [map_list args _ hal, arr_list ts htl]
      exact hrun
    rw [show builtin .append ts type (args.map fun | .const _ => true | _ => false) (args.map (Act.eval ⟨ct, ds⟩)) = (do pure (Next.value (← Builtin.append_ ts type (args.map (Act.eval ⟨ct, ds⟩))))) from rfl, run_value hrun']
    exact ⟨D, _, cv, rfl, .inl rfl, le, hnx, hW, put_defers _ _ _⟩
  split at hq
  · rename_i hx
    -- nil, or an empty literal
    obtain ⟨A, hcx, hdrop⟩ : ∃ A, Act.eval ⟨ct, ds⟩ x = .slice A 0 0 ∧ ∀ u, x = .tmp u → tm[u]? = some (.lst [], true) := by
      cases x with
      | tmp u =>
        have htu := slot_of hx (by simp)
        obtain ⟨cx, hcx, _⟩ := h.tmp u _ htu
        obtain ⟨xs, A, n, c, e1, e2, e3⟩ := (h.own (0, u) _ cx ⟨htu, hcx⟩).form
        injection e1 with e1; subst e1
        have := e3 rfl
        subst this
        obtain ⟨A', c', sz, e4, hc', _⟩ := (show RV C (.lst []) cx by have := h.ev (.tmp u) ds; rw [hx, eval_slot ds hcx] at this; exact this).lst_inv
        rw [e2] at e4
        injection e4 with e4 e5 e6
        subst e5
        exact ⟨A, by rw [eval_slot ds hcx, e2]; rfl, fun u' e' => by injection e' with e'; subst e'; exact htu⟩
      | const v =>
        simp only [M.ev] at hx
        injection hx with _ hx
        exact ⟨none, isNil_eq hx, fun u e => by cases e⟩
      | func f => simp [M.ev] at hx
      | global g => simp [M.ev] at hx
    split at hq
    · rename_i hk
      subst hk
      injection hq with hq; subst hq
      obtain ⟨A2, c2', vs2, e3, hv2, _, hvm, _⟩ := cellsOf_run (P := P) h.heap hcy hyv
      have hvs : vs2 = [] := List.eq_nil_of_length_eq_zero (by rw [hv2]; simp)
      subst hvs
      have hrun := run_append_in (P := P) C.w t t2 type e i _ hue hu2 (fun k q => by cases q) hi A 0 0 0 (Act.eval ⟨ct, ds⟩ y) [] (by rw [e3]; rfl) (by rw [e3]; exact run_first (P := P) C.w i.size 0 c2' A2 [] (by simp) hvm) (Nat.le_refl _) C.w (fun a _ => rfl) (fun _ => rfl)
      obtain ⟨o1, o2⟩ := own_nil (C := C) (B := B) (F := F) (hp := hp) A
      have hrv : RV C (.lst []) (.slice A 0 0) := RV.lst_mk (xs := []) (sz := 1) (by simp) (fun q => absurd rfl q) (fun x hx => by simp at hx) (fun u hu => by simp [flats] at hu) [] (by simp [flats]) (fun i v hi => by simp at hi) (fun i u v hu => by simp [flats] at hu)
      refine fin _ C (.slice A 0 0) (by rw [hcx]; exact hrun) (Cx.Le.refl C) rfl ?_
      cases x with
      | tmp u =>
        have htu := hdrop u rfl
        cases dst with
        | none => simp only [Out.put, unflag_some htu]; exact h.drop u htu
        | some d => simp only [Out.put, unflag_some htu]; exact (h.drop u htu).puto d hrv o1 (fun k v' cv' _ _ b o t => absurd t (o2 b o))
      | _ =>
        cases dst with
        | none => exact h
        | some d => exact h.puto d hrv o1 (fun k v' cv' _ _ b o t => absurd t (o2 b o))
    · rename_i hk
      split at hq
      · rename_i hb
        injection hq with hq; subst hq
        obtain ⟨D, cv, hrun, le, hnx, hW, hrv⟩ := h.append_nil (P := P) t t2 type e e2 i z hue hu2 hi hz hzs c1 hcy hyv hk hb ag A
        refine fin _ D cv (by rw [hcx]; exact hrun) le hnx ?_
        cases dst with
        | none => exact hW
        | some d => exact hW.put d hrv
      · cases hq
  · rename_i id n sz ag0 f hx
    split at hq
    · rename_i cs hg
      split at hq
      · rename_i hc
        obtain ⟨hlo, rfl, hle, hb⟩ := hc
        injection hq with hq; subst hq
        rw [hx] at hxv
        obtain ⟨D, cv, hrun, le, hnx, hW, hrv⟩ := h.append_sl (P := P) t t2 type e e2 i z hue hu2 hi hz hzs c1 c2 hxv hg hle hcy hyv hb ag
        refine fin _ D cv hrun le hnx ?_
        cases dst with
        | none => exact hW
        | some d => exact hW.put d hrv
      · cases hq
    · cases hq
  · cases hq
theorem sound_builtin (h : WRel C B F w0 hp tm ct) (ds : List Deferred) (ro : Md) (b : Builtin) (args : Array Operand) (ts : Array TypeId) (dst : Option Tmp) (type : TypeId) (pos : String) (after : Array Edge) (guard : Option (Nat × Bool)) {q : Out} (hq : abuiltin P ro b ts args (ev tm) C.nx hp = some q) :
    Done C B F w0 tm ⟨ct, ds⟩ dst q ((execOp (Act.eval ⟨ct, ds⟩) ⟨dst, .call { callee := .builtin b, args := args, argTypes := ts }, type, pos, after, guard⟩).run P C.w) := by
  rw [run_builtin]
  unfold abuiltin at hq
  split at hq
  · rename_i x hal
    split at hq
    · rename_i t htl
      obtain ⟨r, hr, rfl⟩ := val_some hq
      have hx := h.ev x ds
      have : ∃ z, (Builtin.len_ ts type (args.map (Act.eval ⟨ct, ds⟩))).run P C.w = .ok z C.w ∧ RV C r z := by
        rw [map_list args _ hal, arr_list ts htl]
        simp only [List.map_cons, List.map_nil]
        generalize Act.eval ⟨ct, ds⟩ x = u at hx
        unfold alen at hr
        split at hr
        · rename_i s hu he
          injection hr with hr; subst hr
          rw [he] at hx
          rw [hx.str_inv]
          exact ⟨.int .i64 s.size, by simp [Builtin.len_, run_underlying hu, goInt], .int _ _⟩
        · rename_i e xs hu he
          injection hr with hr; subst hr
          rw [he] at hx
          obtain ⟨A, c, sz, e, _⟩ := hx.lst_inv
          rw [e]
          exact ⟨.int .i64 xs.length, by simp [Builtin.len_, run_underlying hu, goInt], .int _ _⟩
        · rename_i e id off n sz ag hu he
          injection hr with hr; subst hr
          rw [he] at hx
          obtain ⟨c, e, _⟩ := hx.sl_inv
          rw [e]
          exact ⟨.int .i64 n, by simp [Builtin.len_, run_underlying hu, goInt], .int _ _⟩
        · rename_i hu he
          injection hr with hr; subst hr
          rw [he] at hx
          rw [hx.nilm_inv]
          exact ⟨.int .i64 0, by simp [Builtin.len_, run_underlying hu, goInt], .int _ _⟩
        · cases hr
      obtain ⟨z, hz, hrz⟩ := this
      rw [show builtin .len ts type (args.map fun | .const _ => true | _ => false) (args.map (Act.eval ⟨ct, ds⟩)) = (do pure (Next.value (← Builtin.len_ ts type (args.map (Act.eval ⟨ct, ds⟩))))) from rfl, run_value hz]
      exact done_val h ds dst hrz
    · cases hq
  · rename_i x r hal
    obtain ⟨y, hy, rfl⟩ := val_some hq
    obtain ⟨z, hz, hrz⟩ := sound_min (P := P) amin Builtin.min2 (fun a b r u v hr hu hv => by
      cases a <;> cases b <;> (try simp only [amin] at hr) <;> try (cases hr; done)
      injection hr with hr; subst hr
      rw [hu.int_inv, hv.int_inv]
      exact ⟨_, rfl, .int _ _⟩) h ds r _ _ (h.ev x ds) hy
    have hz' : (Builtin.min_ ts type (args.map (Act.eval ⟨ct, ds⟩))).run P C.w = .ok z C.w := by
      rw [map_list args _ hal]
      exact hz
    rw [show builtin .min ts type (args.map fun | .const _ => true | _ => false) (args.map (Act.eval ⟨ct, ds⟩)) = (do pure (Next.value (← Builtin.min_ ts type (args.map (Act.eval ⟨ct, ds⟩))))) from rfl, run_value hz']
    exact done_val h ds dst hrz
  · rename_i x r hal
    obtain ⟨y, hy, rfl⟩ := val_some hq
    obtain ⟨z, hz, hrz⟩ := sound_min (P := P) amax Builtin.max2 (fun a b r u v hr hu hv => by
      cases a <;> cases b <;> (try simp only [amax] at hr) <;> try (cases hr; done)
      injection hr with hr; subst hr
      rw [hu.int_inv, hv.int_inv]
      exact ⟨_, rfl, .int _ _⟩) h ds r _ _ (h.ev x ds) hy
    have hz' : (Builtin.max_ ts type (args.map (Act.eval ⟨ct, ds⟩))).run P C.w = .ok z C.w := by
      rw [map_list args _ hal]
      exact hz
    rw [show builtin .max ts type (args.map fun | .const _ => true | _ => false) (args.map (Act.eval ⟨ct, ds⟩)) = (do pure (Next.value (← Builtin.max_ ts type (args.map (Act.eval ⟨ct, ds⟩))))) from rfl, run_value hz']
    exact done_val h ds dst hrz
  · rename_i x y hal
    by_cases hmu : appendsAt ro.mu ts.toList = true
    · rw [if_pos hmu] at hq
      exact sound_appendM h ds ro.lo args ts dst type hal hq
    · rw [if_neg hmu] at hq
      split at hq
      · rename_i u xs hu
        exact sound_appendO h ds args ts dst type hal hu hq
      · rename_i u hu
        exact sound_appendC h ds args ts dst type hal hu hq
      · cases hq
  · cases hq
/-- What a call comes to. -/
def Ans (P : Program) (f : FuncId) (vs : Array Value) (w : World) (R : Value → World → Prop) : Prop :=
  ∀ (o : Oper) (a : Act) (next : Act → World → Prop) (Q : Exit → Act → World → Prop), (∀ v w', R v w' → next (a.put o.dst v) w') → Oper.upon P o a next Q ((callFunc f vs).run P w)
/-- A call leaves what the machine tells. -/
def Left (C : Cx) (B : Nat) (F : Nat → Nat → Prop) (w0 : World) (r : Res) (v : Value) (w' : World) : Prop :=
  ∃ D : Cx, D.w = w' ∧ C.Le D ∧ D.nx = r.nx ∧ WRel D B F w0 r.hp [] #[] ∧ RV D r.v v ∧ (r.own = true → OwnOk D B F r.hp r.v v ∧ ∀ k v' cv', Owned D r.hp [] #[] k v' cv' → ∀ b o, Tail r.v v b o → ¬ Tail v' cv' b o)
def GoodCall (P : Program) (call : CallF) : Prop :=
  ∀ f args ro nx hp r, call f args ro nx hp = some r → ∀ (C : Cx) (B : Nat) (F : Nat → Nat → Prop) (w0 : World) (vs : List Value), C.nx = nx → WRel C B F w0 hp [] #[] → vs.length = args.length → (∀ (i : Nat) (a : AVal) (v : Value), args[i]? = some a → vs[i]? = some v → RV C a v) →
    Ans P f vs.toArray C.w (Left C B F w0 r)
/-- What the slots own is not the callee's. -/
def Fore (F : Nat → Nat → Prop) (tm : List Cell) (ct : Array Value) (b o : Nat) : Prop := F b o ∨ ∃ (t : Nat) (v : AVal) (cv : Value), tm[t]? = some (v, true) ∧ ct[t]? = some cv ∧ Tail v cv b o
theorem Owned.none_frame {k : Nat × Nat} {v : AVal} {cv : Value} (h : Owned C hp [] #[] k v cv) : ∃ id i, k = (id + 1, i) ∧ Owned C hp tm ct k v cv := by
  obtain ⟨i, t⟩ := k
  cases i with
  | zero => simp [Owned] at h
  | succ id => exact ⟨id, t, rfl, h⟩
theorem WRel.leave (h : WRel C B F w0 hp tm ct) : WRel C B (Fore F tm ct) w0 hp [] #[] := by
  refine ⟨⟨h.heap.below, h.heap.base, h.heap.ids, h.heap.blk, h.heap.inj, fun i hi => ?_, h.heap.imm, fun b o hF => ?_, h.heap.mapb⟩, rfl, fun t c ht => by simp at ht, fun k v cv ho => ?_, fun k1 k2 v1 c1 v2 c2 h1 h2 hne => ?_⟩
  · obtain ⟨a1, a2, a3⟩ := h.heap.out i hi
    refine ⟨a1, a2, fun o => ⟨(a3 o).1, fun hF => ?_⟩⟩
    rcases hF with hF | ⟨t, v, cv, h1, h2, h3⟩
    · exact (a3 o).2 hF
    · exact ((h.own (0, t) v cv ⟨h1, h2⟩).cells _ _ h3).2.2.2.1 i hi rfl
  · rcases hF with hF | ⟨t, v, cv, h1, h2, h3⟩
    · exact h.heap.far b o hF
    · obtain ⟨_, b2, _, _, b5, b6⟩ := (h.own (0, t) v cv ⟨h1, h2⟩).cells _ _ h3
      exact ⟨b5, b6, b2⟩
  · obtain ⟨id, i, rfl, ho'⟩ := Owned.none_frame (tm := tm) (ct := ct) ho
    have q := h.own _ _ _ ho'
    refine ⟨q.form, fun b o t => ?_⟩
    obtain ⟨a1, a2, a3, a4, a5, a6⟩ := q.cells b o t
    refine ⟨a1, a2, fun hF => ?_, a4, a5, a6⟩
    rcases hF with hF | ⟨t', v', cv', h1, h2, h3⟩
    · exact a3 hF
    · exact h.sep _ (0, t') _ _ _ _ ho' ⟨h1, h2⟩ (by simp) b o t h3
  · obtain ⟨_, _, rfl, h1'⟩ := Owned.none_frame (tm := tm) (ct := ct) h1
    obtain ⟨_, _, rfl, h2'⟩ := Owned.none_frame (tm := tm) (ct := ct) h2
    exact h.sep _ _ _ _ _ _ h1' h2' hne
/-- Back behind a call. -/
theorem WRel.back (h : WRel C B F w0 hp tm ct) {D : Cx} {hp' : Heap} (le : C.Le D) (hD : WRel D B (Fore F tm ct) w0 hp' [] #[]) : WRel D B F w0 hp' tm ct := by
  refine ⟨⟨hD.heap.below, hD.heap.base, hD.heap.ids, hD.heap.blk, hD.heap.inj, fun i hi => ?_, hD.heap.imm, fun b o hF => hD.heap.far b o (.inl hF), hD.heap.mapb⟩, h.size, fun t c ht => ?_, fun k v cv ho => ?_, fun k1 k2 v1 c1 v2 c2 h1 h2 hne b o t1 t2 => ?_⟩
  · obtain ⟨a1, a2, a3⟩ := hD.heap.out i hi
    exact ⟨a1, a2, fun o => ⟨(a3 o).1, fun hF => (a3 o).2 (.inl hF)⟩⟩
  · obtain ⟨v, h1, h2⟩ := h.tmp t c ht
    exact ⟨v, h1, h2.mono le⟩
  · obtain ⟨i, t⟩ := k
    cases i with
    | zero =>
      have q := h.own (0, t) v cv ho
      refine ⟨q.form, fun b o tl => ?_⟩
      obtain ⟨a1, _, a3, _, _, _⟩ := q.cells b o tl
      obtain ⟨b1, b2, b3⟩ := hD.heap.far b o (.inr ⟨t, v, cv, ho.1, ho.2, tl⟩)
      refine ⟨a1, b3, a3, fun id hid e => ?_, b1, b2⟩
      subst e
      exact ((hD.heap.out id hid).2.2 o).2 (.inr ⟨t, v, cv, ho.1, ho.2, tl⟩)
    | succ id =>
      have q := hD.own (id + 1, t) v cv ho
      refine ⟨q.form, fun b o tl => ?_⟩
      obtain ⟨a1, a2, a3, a4, a5, a6⟩ := q.cells b o tl
      exact ⟨a1, a2, fun hF => a3 (.inl hF), a4, a5, a6⟩
  · obtain ⟨i1, s1⟩ := k1
    obtain ⟨i2, s2⟩ := k2
    cases i1 with
    | zero =>
      cases i2 with
      | zero => exact h.sep (0, s1) (0, s2) v1 c1 v2 c2 h1 h2 hne b o t1 t2
      | succ id2 => exact ((hD.own (id2 + 1, s2) v2 c2 h2).cells b o t2).2.2.1 (.inr ⟨s1, v1, c1, h1.1, h1.2, t1⟩)
    | succ id1 =>
      cases i2 with
      | zero => exact ((hD.own (id1 + 1, s1) v1 c1 h1).cells b o t1).2.2.1 (.inr ⟨s2, v2, c2, h2.1, h2.2, t2⟩)
      | succ id2 => exact hD.sep (id1 + 1, s1) (id2 + 1, s2) v1 c1 v2 c2 h1 h2 hne b o t1 t2
/-- The operation has gone through, a call perhaps. -/
theorem sound_oper {call : CallF} (hcall : GoodCall P call) (h : WRel C B F w0 hp tm ct) (ds : List Deferred) (ops : Array Oper) (ro : Md) (o : Oper) {q : Out} (hq : aeff P call ops ro o (ev tm) C.nx hp = some q) (next : Act → World → Prop) (Q : Exit → Act → World → Prop)
    (hn : ∀ (D : Cx) u, C.Le D → D.nx = q.nx → WRel D B F w0 q.hp (q.put o.dst tm).tm ((⟨ct, ds⟩ : Act).put o.dst u).tmps → next ((⟨ct, ds⟩ : Act).put o.dst u) D.w) : o.wp P ⟨ct, ds⟩ C.w next Q := by
  have done : ∀ r, Done C B F w0 tm ⟨ct, ds⟩ o.dst q r → o.upon P ⟨ct, ds⟩ next Q r := by
    rintro r ⟨D, n, u, rfl, hnu, le, hx, hW, _⟩
    have := hn D u le hx hW
    rcases hnu with rfl | ⟨rfl, rfl⟩
    · exact this
    · exact this
  obtain ⟨dst, op, type, pos, after, guard⟩ := o
  unfold Oper.wp
  cases op <;> first | exact done _ (sound_aeff0 h ds ops ro _ hq) | skip
  rename_i c
  obtain ⟨callee, args, ts⟩ := c
  cases callee with
  | invoke a b => cases hq
  | builtin b => exact done _ (sound_builtin h ds ro b args ts dst type pos after guard hq)
  | value f =>
    have hf := h.ev f ds
    simp only [aeff, acall] at hq
    cases hv : (ev tm f).1 <;> rw [hv] at hq hf <;> (try simp only at hq) <;> try (cases hq; done)
    rename_i g fs cs
    obtain ⟨fv, cv, e, hfl, hcl, hfr, hcr⟩ := hf.clo_inv
    cases hc : call g (fs ++ List.map (fun x => (ev tm x).1) args.toList ++ cs) ro.lo C.nx hp with
    | none => rw [hc] at hq; cases hq
    | some r =>
      rw [hc] at hq
      simp only at hq
      injection hq with hq; subst hq
      have hex : (execOp (Act.eval ⟨ct, ds⟩) ⟨dst, .call { callee := .value f, args := args, argTypes := ts }, type, pos, after, guard⟩) = callFunc g ((fv ++ args.toList.map (Act.eval ⟨ct, ds⟩) ++ cv).toArray) := by
        have : (fv.toArray ++ args.map (Act.eval ⟨ct, ds⟩)) ++ cv.toArray = (fv ++ args.toList.map (Act.eval ⟨ct, ds⟩) ++ cv).toArray := by apply Array.ext'; simp
        rw [← this]
        show (do let d ← resolve (Act.eval ⟨ct, ds⟩) { callee := .value f, args := args, argTypes := ts } type; invoke d.target d.args : Sem Next) = _
        simp only [resolve, e, Deferred.ofValue]
        rfl
      rw [hex]
      have happ : ∀ (i : Nat) a v, (fs ++ List.map (fun x => (ev tm x).1) args.toList ++ cs)[i]? = some a → (fv ++ args.toList.map (Act.eval ⟨ct, ds⟩) ++ cv)[i]? = some v → RV C a v := by
        intro i a v ha hv'
        rw [List.append_assoc] at ha hv'
        rcases Nat.lt_or_ge i fs.length with h1 | h1
        · rw [List.getElem?_append_left h1] at ha
          rw [List.getElem?_append_left (by omega)] at hv'
          exact hfr i a v ha hv'
        · rw [List.getElem?_append_right h1] at ha
          rw [List.getElem?_append_right (by omega), hfl] at hv'
          rcases Nat.lt_or_ge (i - fs.length) args.toList.length with h2 | h2
          · rw [List.getElem?_append_left (by simpa using h2), List.getElem?_map] at ha
            rw [List.getElem?_append_left (by simpa using h2), List.getElem?_map] at hv'
            obtain ⟨x, hx, rfl⟩ := Option.map_eq_some_iff.1 ha
            rw [hx] at hv'; injection hv' with hv'; subst hv'
            exact h.ev x ds
          · rw [List.getElem?_append_right (by simpa using h2)] at ha
            rw [List.getElem?_append_right (by simpa using h2)] at hv'
            simp only [List.length_map] at ha hv'
            exact hcr _ a v ha hv'
      refine hcall g _ ro.lo C.nx hp r hc C B (Fore F tm ct) w0 _ rfl h.leave (by simp [hfl, hcl]) happ _ _ next Q ?_
      rintro v w' ⟨D, rfl, le, hx, hW, hr, ho⟩
      have hb := h.back le hW
      refine hn D v le hx ?_
      cases dst with
      | none => exact hb
      | some d =>
        show WRel D B F w0 r.hp (tm.set d (r.v, r.own)) (ct.setIfInBounds d v)
        cases hro : r.own with
        | false => exact hb.put d hr
        | true =>
          obtain ⟨o1, o2⟩ := ho hro
          refine hb.puto d hr ⟨o1.form, fun b o tl => ?_⟩ (fun k v' cv' hk _ b o tl tl' => ?_)
          · obtain ⟨a1, a2, a3, a4, a5, a6⟩ := o1.cells b o tl
            exact ⟨a1, a2, fun hF => a3 (.inl hF), a4, a5, a6⟩
          · obtain ⟨i, t⟩ := k
            cases i with
            | zero => exact ((o1.cells b o tl).2.2.1) (.inr ⟨t, v', cv', hk.1, hk.2, tl'⟩)
            | succ id => exact o2 (id + 1, t) v' cv' hk b o tl tl'
end
end Go.Proofs.YtleimfinniclgaaDoor.M
