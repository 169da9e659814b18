/- The machine is right, operation by operation (5): all that call nothing. -/
import Derived.Test.YtleimfinniclgaaDoorMM
namespace Go.Proofs.YtleimfinniclgaaDoor.M
open Go.RowKit
set_option linter.unusedVariables false
set_option linter.unusedSimpArgs false

section
variable {P : Program} {C : Cx} {B : Nat} {F : Nat → Nat → Prop} {w0 : World} {hp : Heap} {tm : List Cell} {ct : Array Value}

theorem arr_map {α β : Type} (a : Array α) (f : α → β) : (a.toList.map f).toArray = a.map f := by apply Array.ext'; simp
theorem run_value {s : Sem Value} {w w' : World} {z : Value} (h : s.run P w = .ok z w') : (do pure (Next.value (← s)) : Sem Next).run P w = .ok (.value z) w' := by simp [h]
theorem run_unit {s : Sem Unit} {w w' : World} (h : s.run P w = .ok () w') : (do s; pure Next.skip : Sem Next).run P w = .ok .skip w' := by simp [h]
theorem headOk_all {xs : List AVal} {n sz : Nat} (h : headOk xs n = true) (hs : ∀ x, x ∈ xs → x.flat.length = sz) : xs = [] ∨ sz = n := by
  cases xs with
  | nil => exact .inl rfl
  | cons x r =>
    simp [headOk] at h
    exact .inr (by rw [← hs x (List.mem_cons_self ..), h])
/-- A part of a list. -/
theorem RV.sub {xs : List AVal} {A : Option Addr} {c sz l h : Nat} (hr : RV C (.lst xs) (.slice A xs.length c)) (hk : headOk xs sz = true) (hlh : l ≤ h) (hh : h ≤ xs.length) :
    RV C (.lst ((xs.take h).drop l)) (.slice (if c = l then A else A.map (·.add (l * sz))) (h - l) (c - l)) := by
  obtain ⟨A', c', sz', e, hc, hz, hs, h1, vs, hvl, hvm, hvr⟩ := hr.lst_inv
  injection e with e1 _ e2; subst e1 e2
  have hlen : ((xs.take h).drop l).length = h - l := by rw [List.length_drop, List.length_take]; omega
  have hmem : ∀ x, x ∈ (xs.take h).drop l → x ∈ xs := fun x hx => List.mem_of_mem_take (List.mem_of_mem_drop hx)
  rcases headOk_all hk hs with e0 | e0
  · subst e0
    have hh0 : h = 0 := by simpa using hh
    have hl0 : l = 0 := by omega
    subst hh0 hl0
    exact RV.lst_mk (sz := 1) (by simp) (fun q => absurd (by simp) q) (fun x hx => by simp at hx) (fun u hu => by simp [flats] at hu) [] (by simp [flats]) (fun i v hi => by simp at hi) (fun i u v hu => by simp [flats] at hu)
  · subst e0
    have hsplit : flats xs = flats (xs.take l) ++ (flats ((xs.take h).drop l) ++ flats (xs.drop h)) := by
      have e : xs = xs.take l ++ ((xs.take h).drop l ++ xs.drop h) := by
        have h1 : xs.take h = (xs.take h).take l ++ (xs.take h).drop l := (List.take_append_drop l _).symm
        rw [List.take_take, Nat.min_eq_left hlh] at h1
        rw [← List.append_assoc, ← h1, List.take_append_drop]
      rw [← flats_append, ← flats_append, ← e]
    have hll : (flats (xs.take l)).length = l * sz' := by
      rw [flats_len (sz := sz') fun x hx => hs x (List.mem_of_mem_take hx), List.length_take, Nat.min_eq_left (by omega)]
    have hml : (flats ((xs.take h).drop l)).length = (h - l) * sz' := by rw [flats_len (sz := sz') fun x hx => hs x (hmem x hx), hlen]
    have hat : ∀ i, i < (h - l) * sz' → (flats ((xs.take h).drop l))[i]? = (flats xs)[l * sz' + i]? := fun i hi => by
      rw [hsplit, List.getElem?_append_right (by omega), List.getElem?_append_left (by omega), hll]
      congr 1; omega
    have := RV.lst_mk (C := C) (xs := (xs.take h).drop l) (A := if c = l then A else A.map (·.add (l * sz'))) (c := c - l) (sz := sz') (by omega) (fun hne => hz fun q => hne (by rw [q]; simp)) (fun x hx => hs x (hmem x hx))
      (fun u hu => h1 u (by rw [hsplit]; simp [hu])) ((vs.drop (l * sz')).take ((h - l) * sz')) (by
        rw [List.length_take, List.length_drop, hvl, hml, flats_len hs]
        have : h * sz' ≤ xs.length * sz' := Nat.mul_le_mul_right _ hh
        rw [Nat.mul_sub_right_distrib] at *
        omega) (fun i v hi => by
        rw [List.getElem?_take] at hi
        split at hi
        · rename_i hlt
          rw [List.getElem?_drop] at hi
          obtain ⟨b, o, e1, e2, e3⟩ := hvm _ v hi
          subst e1
          have hcl : ¬ c = l := fun q => by
            have : h = l := by omega
            subst this; simp at hlt
          refine ⟨b, o + l * sz', by rw [if_neg hcl]; simp [add_at], ?_, ?_⟩
          · rw [Nat.add_assoc]; exact e2
          · rw [Nat.add_assoc]; exact e3
        · cases hi) (fun i u v hu hv => by
        rw [List.getElem?_take] at hv
        split at hv
        · rename_i hlt
          rw [List.getElem?_drop] at hv
          rw [hat i hlt] at hu
          exact hvr _ u v hu hv
        · cases hv)
    rwa [hlen] at this
def optB (o : Option Value) (s : Value → Sem Nat) (d : Nat) : Sem Nat := match o with
  | some v => s v
  | none => pure d
theorem run_bound {code : BoundsCode} {a : AVal} {u : Value} {d most n : Nat} (hu : RV C a u) (h : M.bound (some a) d most = some n) : (Instr.sliceBound u most code).run P C.w = .ok n C.w ∧ n ≤ most := by
  cases a <;> (try simp only [M.bound] at h) <;> try (cases h; done)
  rename_i k i
  obtain rfl := hu.int_inv
  split at h
  · rename_i hi
    injection h with h; subst h
    refine ⟨?_, by omega⟩
    simp [Instr.sliceBound, asIntOf, hi]
  · cases h
theorem run_bounds {isSlice : Bool} {len cap : Nat} {lo hi : Option AVal} {lov hiv : Option Value} (hlo : ∀ a, lo = some a → ∃ u, lov = some u ∧ RV C a u) (hlo' : lo = none → lov = none) (hhi : ∀ a, hi = some a → ∃ u, hiv = some u ∧ RV C a u) (hhi' : hi = none → hiv = none)
    (hlc : len ≤ cap) {l h : Nat} (e1 : M.bound hi len len = some h) (e2 : M.bound lo 0 h = some l) : (Instr.sliceBounds isSlice len cap lov hiv none).run P C.w = .ok (l, h, cap) C.w ∧ l ≤ h ∧ h ≤ len := by
  have mono : ∀ a n, M.bound (some a) len len = some n → M.bound (some a) len cap = some n ∧ n ≤ len := by
    intro a n h
    cases a <;> (try simp only [M.bound] at h) <;> try (cases h; done)
    rename_i k i
    split at h
    · rename_i hi
      simp only [M.bound]
      rw [if_pos (by omega)]
      injection h with h
      exact ⟨by rw [h], by omega⟩
    · cases h
  have hH : (optB hiv (fun v => Instr.sliceBound v cap (if isSlice then .sliceAcap else .sliceAlen)) len).run P C.w = .ok h C.w ∧ h ≤ len := by
    cases hi with
    | none => rw [hhi' rfl]; simp only [M.bound] at e1; injection e1 with e1; subst e1; exact ⟨rfl, Nat.le_refl _⟩
    | some a =>
      obtain ⟨u, hu, hr⟩ := hhi a rfl
      obtain ⟨m1, m2⟩ := mono a h e1
      rw [hu]
      exact ⟨(run_bound hr m1).1, m2⟩
  have hL : (optB lov (fun v => Instr.sliceBound v h .sliceB) 0).run P C.w = .ok l C.w ∧ l ≤ h := by
    cases lo with
    | none => rw [hlo' rfl]; simp only [M.bound] at e2; injection e2 with e2; subst e2; exact ⟨rfl, Nat.zero_le _⟩
    | some a =>
      obtain ⟨u, hu, hr⟩ := hlo a rfl
      rw [hu]
      exact run_bound hr e2
  refine ⟨?_, hL.2, hH.2⟩
  have h1 := hH.1
  have h2 := hL.1
  clear hH hL hlo hlo' hhi hhi' e1 e2 mono
  cases hiv <;> cases lov <;> simp_all [Instr.sliceBounds, optB]
theorem sound_slice (t : TypeId) {a : AVal} {u : Value} (hu : RV C a u) {lo hi mx : Option AVal} {lov hiv mxv : Option Value} (hlo : ∀ a, lo = some a → ∃ u, lov = some u ∧ RV C a u) (hlo' : lo = none → lov = none) (hhi : ∀ a, hi = some a → ∃ u, hiv = some u ∧ RV C a u) (hhi' : hi = none → hiv = none)
    (hmx' : mx = none → mxv = none) {r : AVal} (h : aslice P t a lo hi mx = some r) : ∃ z, (Instr.sliceAt t u lov hiv mxv).run P C.w = .ok z C.w ∧ RV C r z := by
  unfold aslice at h
  split at h
  · rename_i s hd
    rw [hmx' rfl]
    obtain rfl := hu.str_inv
    cases hb : M.bound hi s.size s.size with
    | none => rw [hb] at h; cases h
    | some hh =>
      rw [hb] at h
      obtain ⟨l, hl, rfl⟩ := Option.map_eq_some_iff.1 h
      obtain ⟨hrun, _, _⟩ := run_bounds (P := P) (isSlice := false) hlo hlo' hhi hhi' (Nat.le_refl s.size) hb hl
      exact ⟨.string (s.extract l hh), by simp [Instr.sliceAt, Instr.slice, run_underlying hd, hrun], .str _⟩
  · rename_i xs e hd
    rw [hmx' rfl]
    split at h
    · rename_i hc
      obtain ⟨hk, hz⟩ := hc
      obtain ⟨ie, hie, _⟩ := info_of_size hz
      obtain ⟨A, c, sz, rfl, hcl, _⟩ := hu.lst_inv
      cases hb : M.bound hi xs.length xs.length with
      | none => rw [hb] at h; cases h
      | some hh =>
        rw [hb] at h
        obtain ⟨l, hl, rfl⟩ := Option.map_eq_some_iff.1 h
        obtain ⟨hrun, h1, h2⟩ := run_bounds (P := P) (isSlice := true) hlo hlo' hhi hhi' hcl hb hl
        exact ⟨_, by simp [Instr.sliceAt, Instr.slice, run_underlying hd, hrun, run_sizeT hie], hu.sub hk h1 h2⟩
    · cases h
  · rename_i id off len sz ag e hd
    rw [hmx' rfl]
    split at h
    · rename_i hc
      obtain ⟨rfl, hz⟩ := hc
      obtain ⟨ie, hie, _⟩ := info_of_size hz
      obtain ⟨c, rfl, hid, hcl, hx⟩ := hu.sl_inv
      cases hb : M.bound hi len len with
      | none => rw [hb] at h; cases h
      | some hh =>
        rw [hb] at h
        obtain ⟨l, hl, rfl⟩ := Option.map_eq_some_iff.1 h
        obtain ⟨hrun, h1, h2⟩ := run_bounds (P := P) (isSlice := true) hlo hlo' hhi hhi' hcl hb hl
        refine ⟨.slice (if c = l then some ⟨C.ι id, off, none⟩ else some ((⟨C.ι id, off, none⟩ : Addr).add (l * sizeT P e))) (hh - l) (c - l), by simp [Instr.sliceAt, Instr.slice, run_underlying hd, hrun, run_sizeT hie], ?_⟩
        split
        · rename_i hlen
          have e1 : (if c = l then some (⟨C.ι id, off, none⟩ : Addr) else some ((⟨C.ι id, off, none⟩ : Addr).add (l * sizeT P e))) = some ⟨C.ι id, off + l * sizeT P e, none⟩ := by
            split
            · have : l = 0 := by omega
              subst this; simp
            · simp [add_at]
          rw [e1]
          refine .sl id _ _ _ _ ag hid (by omega) fun o ho => hx o ?_
          rw [Nat.sub_mul] at ho
          have := Nat.mul_le_mul_right (sizeT P e) (show l ≤ c by omega)
          omega
        · rename_i hlen
          have e1 : hh - l = 0 := by omega
          rw [e1]
          exact RV.lst_mk (xs := []) (sz := 1) (by simp) (fun q => absurd rfl q) (fun x hx => by simp at hx) (fun u hu => by simp [flats] at hu) [] (by simp [flats]) (fun i v hi => by simp at hi) (fun i u v hu => by simp [flats] at hu)
    · cases h
  · cases h
theorem opt_map {tm : List Cell} {ct : Array Value} (h : WRel C B F w0 hp tm ct) (ds : List Deferred) (x : Option Operand) : (∀ a, (x.map fun x => (ev tm x).1) = some a → ∃ u, x.map (Act.eval ⟨ct, ds⟩) = some u ∧ RV C a u) ∧ ((x.map fun x => (ev tm x).1) = none → x.map (Act.eval ⟨ct, ds⟩) = none) := by
  cases x with
  | none => exact ⟨fun a h => (by cases h), fun _ => rfl⟩
  | some x => exact ⟨fun a e => by injection e with e; subst e; exact ⟨_, rfl, h.ev x ds⟩, fun e => (by cases e)⟩
theorem map_fst {α β γ : Type} (l : List (α × β)) (f : β → γ) : (l.map fun p => (p.1, f p.2)).map (·.1) = l.map (·.1) := by rw [List.map_map]; rfl
/-- All operations that call nothing. -/
theorem sound_aeff0 (h : WRel C B F w0 hp tm ct) (ds : List Deferred) (ops : Array Oper) (ro : Md) (o : Oper) {q : Out} (hq : aeff0 P ops ro o (ev tm) C.nx hp = some q) : Done C B F w0 tm ⟨ct, ds⟩ o.dst q ((execOp (Act.eval ⟨ct, ds⟩) o).run P C.w) := by
  obtain ⟨dst, op, type, pos, after, guard⟩ := o
  cases op <;> (try simp only [aeff0] at hq) <;> try (cases hq; done)
  case move x => exact sound_move h ds dst _ x hq
  case assign x => exact sound_move h ds dst _ x hq
  case pick c a b =>
    have hc := h.ev c ds
    cases hv : (ev tm c).1 <;> rw [hv] at hq hc <;> (try simp only at hq) <;> try (cases hq; done)
    rename_i k
    injection hq with hq; subst hq
    have hcv := hc.bool_inv
    have : (execOp (Act.eval ⟨ct, ds⟩) ⟨dst, .pick c a b, type, pos, after, guard⟩).run P C.w = .ok (.value (if k then Act.eval ⟨ct, ds⟩ a else Act.eval ⟨ct, ds⟩ b)) C.w := by simp [execOp, hcv, asBool]
    rw [this]
    refine done_val h ds dst ?_
    cases k
    · exact h.ev b ds
    · exact h.ev a ds
  case alloc t =>
    cases hi : P.info? t with
    | none => rw [hi] at hq; cases hq
    | some i =>
      rw [hi] at hq
      simp only [Option.bind_some] at hq
      cases hz : i.zero with
      | none => rw [hz] at hq; cases hq
      | some z =>
        rw [hz] at hq
        simp only at hq
        split at hq
        · rename_i h1
          injection hq with hq; subst hq
          obtain ⟨v, w, hrun, hdone⟩ := sound_alloc (P := P) h ds dst t hi hz h1
          rw [show execOp (Act.eval ⟨ct, ds⟩) ⟨dst, .alloc t, type, pos, after, guard⟩ = (do pure (Next.value (← Instr.alloc t true (.tuple #[])))) from rfl, run_value hrun]
          exact hdone
        · cases hq
  case box t x =>
    split at hq
    · rename_i h1
      injection hq with hq; subst hq
      obtain ⟨v, w, hrun, hdone⟩ := sound_box (P := P) h ds dst t (h.ev x ds) h1
      rw [show execOp (Act.eval ⟨ct, ds⟩) ⟨dst, .box t x, type, pos, after, guard⟩ = (do pure (Next.value (← Instr.box t (Act.eval ⟨ct, ds⟩ x)))) from rfl, run_value hrun]
      exact hdone
    · cases hq
  case build t ps =>
    obtain ⟨r, hr, rfl⟩ := val_some hq
    obtain ⟨z, hrun, hz⟩ := sound_build (P := P) (C := C) _ t (ps.toList.map fun p => (p.1, (ev tm p.2).1)) (ps.toList.map fun p => (p.1, Act.eval ⟨ct, ds⟩ p.2)) (by simp) (fun i p q hp hq => by
      rw [List.getElem?_map] at hp hq
      obtain ⟨y, hy, rfl⟩ := Option.map_eq_some_iff.1 hp
      rw [hy] at hq; injection hq with hq; subst hq
      exact h.ev y.2 ds) hr
    have e : execOp (Act.eval ⟨ct, ds⟩) ⟨dst, .build t ps, type, pos, after, guard⟩ = (do pure (Next.value (← Instr.build t (ps.toList.map fun p => (p.1, Act.eval ⟨ct, ds⟩ p.2)).toArray))) := by
      rw [arr_map]; rfl
    rw [e, run_value hrun]
    exact done_val h ds dst hz
  case buildSlice t len ps =>
    cases hu : P.underlying t with
    | none => rw [hu] at hq; cases hq
    | some d =>
      rw [hu] at hq
      cases d <;> (try simp only at hq) <;> try (cases hq; done)
      rename_i el
      split at hq
      · rename_i hc
        obtain ⟨c1, c2, c3, c4, c5, c6⟩ := hc
        rw [← apply_ite some] at hq
        injection hq with hq; subst hq
        obtain ⟨r, hrun, hdone⟩ := sound_buildSlice (P := P) h ds dst t el len (ps.toList.map fun p => (p.1, (ev tm p.2).1)) (ps.toList.map fun p => (p.1, Act.eval ⟨ct, ds⟩ p.2)) hu (by simp) (fun i p q hp hq => by
          rw [List.getElem?_map] at hp hq
          obtain ⟨y, hy, rfl⟩ := Option.map_eq_some_iff.1 hp
          rw [hy] at hq; injection hq with hq; subst hq
          exact h.ev y.2 ds) c1 c2 c3 (fun p hp => by
          have := List.all_eq_true.1 c4 p hp
          simp only [Bool.and_eq_true, beq_iff_eq] at this
          exact this) c5 c6 (ro.mu.contains t) ((isAggT P el).getD false)
        have e : execOp (Act.eval ⟨ct, ds⟩) ⟨dst, .buildSlice t len ps, type, pos, after, guard⟩ = (do pure (Next.value (← Instr.buildSlice t len (ps.toList.map fun p => (p.1, Act.eval ⟨ct, ds⟩ p.2)).toArray))) := by
          rw [arr_map]; rfl
        rw [e]
        cases r with
        | ok v w => rw [run_value hrun]; exact hdone
        | halt x w => obtain ⟨D, n, u, hh, _⟩ := hdone; cases hh
      · cases hq
  case load t a =>
    obtain ⟨v, hrun, hdone⟩ := sound_load (P := P) h ds dst ops ro t (h.ev a ds) hq
    rw [show execOp (Act.eval ⟨ct, ds⟩) ⟨dst, .load t a, type, pos, after, guard⟩ = (do pure (Next.value (← Instr.loadAt t (Act.eval ⟨ct, ds⟩ a)))) from rfl, run_value hrun]
    exact hdone
  case makeMap t r =>
    cases r with
    | some x => cases hq
    | none =>
      simp only at hq
      split at hq
      · cases hq
        obtain ⟨le, hW, hr⟩ := h.newMap
        have hrun : (Instr.makeMap t none).run P C.w = .ok (.map (some C.w.heap.size)) (C.w.alloc (.map #[] 0)) := rfl
        rw [show execOp (Act.eval ⟨ct, ds⟩) ⟨dst, .makeMap t none, type, pos, after, guard⟩ = (do pure (Next.value (← Instr.makeMap t none))) from rfl, run_value hrun]
        exact done_mk (D := C.newMap) ds dst (.inl rfl) le rfl rfl (fun _ => hW) (fun d _ => hW.put d hr)
      · cases hq
  case lookup t m k ok =>
    obtain ⟨r, hr, rfl⟩ := val_some hq
    obtain ⟨z, hz, hrv⟩ := sound_lookup (P := P) h.heap t (h.ev m ds) (h.ev k ds) ok hr
    rw [show execOp (Act.eval ⟨ct, ds⟩) ⟨dst, .lookup t m k ok, type, pos, after, guard⟩ = (do pure (Next.value (← Instr.lookup t (Act.eval ⟨ct, ds⟩ m) (Act.eval ⟨ct, ds⟩ k) ok))) from rfl, run_value hz]
    exact done_val h ds dst hrv
  case insert t m k v =>
    obtain ⟨hp', hh, rfl⟩ := Option.map_eq_some_iff.1 hq
    obtain ⟨D, hrun, le, hx, hW⟩ := sound_mapset (P := P) h ro.lo t (h.ev m ds) (h.ev k ds) (h.ev v ds) hh
    rw [show execOp (Act.eval ⟨ct, ds⟩) ⟨dst, .insert t m k v, type, pos, after, guard⟩ = (do Instr.mapUpdate t (Act.eval ⟨ct, ds⟩ m) (Act.eval ⟨ct, ds⟩ k) (Act.eval ⟨ct, ds⟩ v); pure Next.skip) from rfl]
    simp only [Sem.run_bind, hrun, Result.andThen_ok, Sem.run_pure]
    exact done_mk ds dst (u := undef) (.inr ⟨rfl, rfl⟩) le hx rfl (fun _ => hW) (fun d _ => hW.put d (RV.tup [] [] rfl (fun i a v hi => by simp at hi)))
  case mapUpdate t m k v =>
    obtain ⟨hp', hh, rfl⟩ := Option.map_eq_some_iff.1 hq
    obtain ⟨D, hrun, le, hx, hW⟩ := sound_mapset (P := P) h ro.lo t (h.ev m ds) (h.ev k ds) (h.ev v ds) hh
    rw [show execOp (Act.eval ⟨ct, ds⟩) ⟨dst, .mapUpdate t m k v, type, pos, after, guard⟩ = (do Instr.mapUpdate t (Act.eval ⟨ct, ds⟩ m) (Act.eval ⟨ct, ds⟩ k) (Act.eval ⟨ct, ds⟩ v); pure Next.skip) from rfl]
    simp only [Sem.run_bind, hrun, Result.andThen_ok, Sem.run_pure]
    exact done_mk ds dst (u := undef) (.inr ⟨rfl, rfl⟩) le hx rfl (fun _ => hW) (fun d _ => hW.put d (RV.tup [] [] rfl (fun i a v hi => by simp at hi)))
  case store t a x =>
    obtain ⟨w, hrun, hdone⟩ := sound_store (P := P) h ds dst ops ro t (h.ev a ds) x hq
    rw [show execOp (Act.eval ⟨ct, ds⟩) ⟨dst, .store t a x, type, pos, after, guard⟩ = (do Instr.storeAt t (Act.eval ⟨ct, ds⟩ a) (Act.eval ⟨ct, ds⟩ x); pure Next.skip) from rfl, run_unit hrun]
    exact hdone
  case nilCheck x =>
    have hx := h.ev x ds
    cases hv : (ev tm x).1 <;> rw [hv] at hq hx <;> (try simp only at hq) <;> try (cases hq; done)
    all_goals (injection hq with hq; subst hq)
    · have e := hx.ptr_inv.1
      rw [show (execOp (Act.eval ⟨ct, ds⟩) ⟨dst, .nilCheck x, type, pos, after, guard⟩).run P C.w = .ok (.value (Act.eval ⟨ct, ds⟩ x)) C.w by simp [execOp, e]]
      exact done_val h ds dst hx
    · obtain ⟨b, o, e, _⟩ := hx.pel_inv
      rw [show (execOp (Act.eval ⟨ct, ds⟩) ⟨dst, .nilCheck x, type, pos, after, guard⟩).run P C.w = .ok (.value (Act.eval ⟨ct, ds⟩ x)) C.w by simp [execOp, e]]
      exact done_val h ds dst hx
    · obtain ⟨fv, cv, e, _⟩ := hx.clo_inv
      rw [show (execOp (Act.eval ⟨ct, ds⟩) ⟨dst, .nilCheck x, type, pos, after, guard⟩).run P C.w = .ok (.value (Act.eval ⟨ct, ds⟩ x)) C.w by simp [execOp, e]]
      exact done_val h ds dst hx
  case binOp op t x y u =>
    obtain ⟨r, hr, rfl⟩ := val_some hq
    obtain ⟨z, hrun, hz⟩ := sound_binT (P := P) ds op t x y (h.ev x ds) (h.ev y ds) hr
    rw [show execOp (Act.eval ⟨ct, ds⟩) ⟨dst, .binOp op t x y u, type, pos, after, guard⟩ = (do pure (Next.value (← (do eqGuard op t x y (Act.eval ⟨ct, ds⟩ x) (Act.eval ⟨ct, ds⟩ y); binOp op t (Act.eval ⟨ct, ds⟩ x) (Act.eval ⟨ct, ds⟩ y) : Sem Value)))) from rfl, run_value hrun]
    exact done_val h ds dst hz
  case unOp op t x =>
    obtain ⟨r, hr, rfl⟩ := val_some hq
    obtain ⟨z, hrun, hz⟩ := sound_un (P := P) op (h.ev x ds) hr
    rw [show execOp (Act.eval ⟨ct, ds⟩) ⟨dst, .unOp op t x, type, pos, after, guard⟩ = (do pure (Next.value (← Op.unary op (Act.eval ⟨ct, ds⟩ x)))) from rfl, run_value hrun]
    exact done_val h ds dst hz
  case makeFunc fn a b =>
    cases fn <;> (try simp only at hq) <;> try (cases hq; done)
    rename_i f
    injection hq with hq; subst hq
    rw [show (execOp (Act.eval ⟨ct, ds⟩) ⟨dst, .makeFunc (.func f) a b, type, pos, after, guard⟩).run P C.w = .ok (.value (.func (.func f) (a.map (Act.eval ⟨ct, ds⟩)) (b.map (Act.eval ⟨ct, ds⟩)))) C.w from rfl]
    refine done_val h ds dst ?_
    have := RV.clo (C := C) f (a.toList.map fun x => (ev tm x).1) (b.toList.map fun x => (ev tm x).1) (a.toList.map (Act.eval ⟨ct, ds⟩)) (b.toList.map (Act.eval ⟨ct, ds⟩)) (by simp) (by simp) (fun i y u hy hu => by
      rw [List.getElem?_map] at hy hu
      obtain ⟨x, hx, rfl⟩ := Option.map_eq_some_iff.1 hy
      rw [hx] at hu; injection hu with hu; subst hu
      exact h.ev x ds) (fun i y u hy hu => by
      rw [List.getElem?_map] at hy hu
      obtain ⟨x, hx, rfl⟩ := Option.map_eq_some_iff.1 hy
      rw [hx] at hu; injection hu with hu; subst hu
      exact h.ev x ds)
    rw [arr_map, arr_map] at this
    exact this
  case slice t x lo hi mx =>
    obtain ⟨r, hr, rfl⟩ := val_some hq
    have hl := opt_map h ds lo
    have hh := opt_map h ds hi
    have hm := opt_map h ds mx
    obtain ⟨z, hrun, hz⟩ := sound_slice (P := P) t (h.ev x ds) hl.1 hl.2 hh.1 hh.2 hm.2 hr
    rw [show execOp (Act.eval ⟨ct, ds⟩) ⟨dst, .slice t x lo hi mx, type, pos, after, guard⟩ = (do pure (Next.value (← Instr.sliceAt t (Act.eval ⟨ct, ds⟩ x) (lo.map (Act.eval ⟨ct, ds⟩)) (hi.map (Act.eval ⟨ct, ds⟩)) (mx.map (Act.eval ⟨ct, ds⟩))))) from rfl, run_value hrun]
    exact done_val h ds dst hz
  case fieldAddr t x f =>
    obtain ⟨r, hr, rfl⟩ := val_some hq
    obtain ⟨z, hrun, hz⟩ := sound_field_addr (P := P) t f (h.ev x ds) hr
    rw [show execOp (Act.eval ⟨ct, ds⟩) ⟨dst, .fieldAddr t x f, type, pos, after, guard⟩ = (do pure (Next.value (← Instr.fieldAt t (Act.eval ⟨ct, ds⟩ x) f))) from rfl, run_value hrun]
    exact done_val h ds dst hz
  case field t x f =>
    obtain ⟨r, hr, rfl⟩ := val_some hq
    obtain ⟨z, hrun, hz⟩ := sound_field (P := P) t f (h.ev x ds) hr
    rw [show execOp (Act.eval ⟨ct, ds⟩) ⟨dst, .field t x f, type, pos, after, guard⟩ = (do pure (Next.value (← Instr.field t (Act.eval ⟨ct, ds⟩ x) f))) from rfl, run_value hrun]
    exact done_val h ds dst hz
  case indexAddr t x i =>
    obtain ⟨r, hr, rfl⟩ := val_some hq
    obtain ⟨z, hrun, hz⟩ := sound_index_addr (P := P) t (h.ev x ds) (h.ev i ds) hr
    rw [show execOp (Act.eval ⟨ct, ds⟩) ⟨dst, .indexAddr t x i, type, pos, after, guard⟩ = (do pure (Next.value (← Instr.indexAt t (Act.eval ⟨ct, ds⟩ x) (Act.eval ⟨ct, ds⟩ i)))) from rfl, run_value hrun]
    exact done_val h ds dst hz
  case index t x i =>
    obtain ⟨r, hr, rfl⟩ := val_some hq
    obtain ⟨z, hrun, hz⟩ := sound_index (P := P) t (h.ev x ds) (h.ev i ds) hr
    rw [show execOp (Act.eval ⟨ct, ds⟩) ⟨dst, .index t x i, type, pos, after, guard⟩ = (do pure (Next.value (← Instr.index t (Act.eval ⟨ct, ds⟩ x) (Act.eval ⟨ct, ds⟩ i)))) from rfl, run_value hrun]
    exact done_val h ds dst hz
  case extract x i =>
    have hx := h.ev x ds
    cases hv : (ev tm x).1 <;> rw [hv] at hq hx <;> (try simp only at hq) <;> try (cases hq; done)
    rename_i cs
    obtain ⟨r, hr, rfl⟩ := val_some hq
    obtain ⟨vs, e, hl, hrr⟩ := hx.tup_inv
    have hlt := (List.getElem?_eq_some_iff.1 hr).1
    have hg : vs[i]? = some (vs[i]'(by omega)) := List.getElem?_eq_getElem (by omega)
    have hrun : (Instr.extract (Act.eval ⟨ct, ds⟩ x) i).run P C.w = .ok (vs[i]'(by omega)) C.w := by rw [e]; simp [Instr.extract, hg]
    rw [show execOp (Act.eval ⟨ct, ds⟩) ⟨dst, .extract x i, type, pos, after, guard⟩ = (do pure (Next.value (← Instr.extract (Act.eval ⟨ct, ds⟩ x) i))) from rfl, run_value hrun]
    exact done_val h ds dst (hrr i r _ hr hg)
end
end Go.Proofs.YtleimfinniclgaaDoor.M
