/- The machine as a whole: what a law comes to. -/
import Derived.Test.YtleimfinniclgaaDoorMY
namespace Go.Proofs.YtleimfinniclgaaDoor.M
open Go.RowKit
set_option linter.unusedVariables false
set_option linter.unusedSimpArgs false

theorem vl_pure {K : Cfg} {f : FuncId} (h : K.vl f = true) : K.pure f = true := by unfold Cfg.vl at h; simp at h; exact h.2
theorem kds (K : Cfg) (n : Nat) : Kds (K.kd false) (arun K n) := by
  have e : ∃ g : FuncId → List AVal → Nat → Nat → Heap → Option Res, (∀ f args ro nx hp r, K.pure f = true → g f args ro nx hp = some r → r.nx = nx ∧ r.hp = hp) ∧ arun K n = fun f args ro nx hp => vlc K f args ro nx hp (g f args) := by
    have key : ∀ {m : Nat} {f : FuncId} {nx : Nat} {hp : Heap} {x : Option Res} {r : Res}, K.pure f = true → fin K m f nx hp x = some r → r.nx = nx ∧ r.hp = hp := by
      intro m f nx hp x r hp' h
      unfold fin at h
      rw [if_pos hp'] at h
      obtain ⟨q, u, _, _, _, rfl⟩ := sealed_inv h
      exact ⟨rfl, rfl⟩
    cases n with
    | zero => exact ⟨fun f args ro nx hp => fin K 0 f nx hp (K.ext f args (low K f ro nx) nx hp), fun f args ro nx hp r h1 h2 => key h1 h2, by funext f args ro nx hp; rw [arun.eq_def]⟩
    | succ n => exact ⟨fun f args ro nx hp => fin K n f nx hp (core K f args (low K f ro nx) nx hp fun fn => abody K.P (K.kd false) (arun K n) n ⟨low K f ro nx, K.mu f⟩ fn args nx hp), fun f args ro nx hp r h1 h2 => key h1 h2, by funext f args ro nx hp; rw [arun]⟩
  obtain ⟨g, hg, e⟩ := e
  refine ⟨fun f args ro nx hp r hp' h => ?_, fun f args ro nx hp r hv h => ?_, fun f h => vl_pure h⟩
  · rw [e] at h
    simp only [vlc] at h
    split at h
    · split at h
      · cases hx : g f args 0 0 [] with
        | none => rw [hx] at h; cases h
        | some q => rw [hx] at h; cases h; exact ⟨rfl, rfl⟩
      · cases h
    · exact hg _ _ _ _ _ _ hp' h
  · have hv : K.vl f = true := hv
    rw [e] at h ⊢
    simp only [vlc, if_pos hv] at h ⊢
    split at h
    · rename_i hi
      cases hx : g f args 0 0 [] with
      | none => rw [hx] at h; cases h
      | some q => rw [hx] at h; cases h; exact ⟨rfl, rfl, fun _ _ _ => by simp only [if_pos hi]; rfl⟩
    · cases h
theorem R_right (K : Cfg) (hext : GoodCall K.P K.ext) (hsafe : RoCall K.ext) (hname : ∀ (f : FuncId) (fn : Func), K.P.funcs[f]? = some fn → fn.name ≠ "runtime.NumGoroutine") : GoodCall K.P (R K) :=
  R_good K hext hsafe (fun n => draws (kds K n) rfl) hname
/-- No contract at all. -/
theorem no_ext (P : Program) : GoodCall P (fun _ _ _ _ _ => none) ∧ RoCall (fun _ _ _ _ _ => none) := ⟨fun f args ro nx hp r h => (by cases h), fun f args ro nx hp r h => (by cases h)⟩
def ints (xs : List Int) : List AVal := xs.map (.int .i64)
/-- The world at the door: the numbers stay. -/
def Cx.door (W : World) (a : Option Addr) (n : Nat) : Cx := { ι := fun _ => 0, I := fun b o => ∃ x, a = some x ∧ x.spot = none ∧ b = x.block ∧ x.off ≤ o ∧ o < x.off + n, nx := 0, w := W }
theorem door_ok {W : World} {a : Option Addr} {xs : List Int} (hc : ∀ (i : Nat) p, xs[i]? = some p → ∃ x, a = some x ∧ W.cell? (x.add i) = some (.int .i64 p)) : WRel (Cx.door W a xs.length) W.heap.size (fun _ _ => False) W [] [] #[] := by
  have hg : ∀ i, ¬ (hget [] i).isSome = true := fun i h => by simp [hget] at h
  refine ⟨⟨Below.refl _ _, Nat.le_refl _, fun i hi => absurd hi (hg i), fun id cs h => by simp [hget] at h, fun i j hi => absurd hi (hg i), fun i hi => absurd hi (hg i), fun b o hI => ?_, fun b o hF => hF.elim, fun id es h => by simp [hget] at h⟩, rfl, fun t c ht => by simp at ht, fun k v cv ho => ?_, fun k1 k2 v1 c1 v2 c2 h1 => ?_⟩
  · obtain ⟨x, rfl, hs, rfl, h1, h2⟩ := hI
    obtain ⟨x', e, hx⟩ := hc (o - x.off) _ (List.getElem?_eq_getElem (by omega))
    injection e with e; subst e
    obtain ⟨b, o', s⟩ := x
    simp only at hs h1; subst hs
    rw [add_at, show o' + (o - o') = o by omega] at hx
    exact ⟨_, hx⟩
  · obtain ⟨i, t⟩ := k
    cases i with
    | zero => simp [Owned] at ho
    | succ id => obtain ⟨cs, vs, ty, h, _⟩ := ho; simp [hget] at h
  · obtain ⟨i, t⟩ := k1
    cases i with
    | zero => simp [Owned] at h1
    | succ id => obtain ⟨cs, vs, ty, h, _⟩ := h1; simp [hget] at h
theorem flats_ints (xs : List Int) : flats (ints xs) = ints xs := by
  unfold ints
  induction xs with
  | nil => rfl
  | cons x r ih => show [_] ++ flats (r.map _) = _; rw [ih]; rfl
theorem door_arg {W : World} {a : Option Addr} {xs : List Int} {cap : Nat} (hcap : xs.length ≤ cap) (hc : ∀ (i : Nat) p, xs[i]? = some p → ∃ x, a = some x ∧ W.cell? (x.add i) = some (.int .i64 p)) : RV (Cx.door W a xs.length) (.lst (ints xs)) (.slice a xs.length cap) := by
  have hl : (ints xs).length = xs.length := by simp [ints]
  have hm : ∀ x, x ∈ ints xs → ∃ p, x = .int .i64 p := fun x hx => by
    obtain ⟨p, _, rfl⟩ := List.mem_map.1 hx
    exact ⟨p, rfl⟩
  have := RV.lst (C := Cx.door W a xs.length) (ints xs) a cap 1 (fun i => .int .i64 (xs.getD i 0)) (by rw [hl]; exact hcap) (fun _ => Nat.one_pos) (fun x hx => by obtain ⟨p, rfl⟩ := hm x hx; rfl) (fun u hu => by rw [flats_ints] at hu; obtain ⟨p, rfl⟩ := hm u hu; rfl)
    (fun i u hu => by
      rw [flats_ints] at hu
      unfold ints at hu
      rw [List.getElem?_map] at hu
      obtain ⟨p, hp, rfl⟩ := Option.map_eq_some_iff.1 hu
      obtain ⟨x, hxe, hx⟩ := hc i p hp
      have hlt := (List.getElem?_eq_some_iff.1 hp).1
      obtain ⟨x', e, hx0⟩ := hc 0 _ (List.getElem?_eq_getElem (by omega))
      rw [hxe] at e; injection e with e; subst e
      subst hxe
      have hs : x.spot = none := by
        rw [show x.add 0 = x from rfl] at hx0
        simp only [World.cell?] at hx0
        split at hx0
        · split at hx0
          · cases hx0
          · rename_i h; simpa using h
        · cases hx0
      obtain ⟨b, o, s⟩ := x
      simp only at hs; subst hs
      refine ⟨b, o, rfl, ⟨_, rfl, rfl, rfl, by show o ≤ o + i; omega, by show o + i < o + xs.length; omega⟩, ?_⟩
      rw [add_at] at hx
      show W.cell? _ = _
      rw [hx, List.getD_eq_getElem?_getD, hp]; rfl)
    (fun i u hu => by
      rw [flats_ints] at hu
      unfold ints at hu
      rw [List.getElem?_map] at hu
      obtain ⟨p, hp, rfl⟩ := Option.map_eq_some_iff.1 hu
      rw [List.getD_eq_getElem?_getD, hp]
      exact .int _ _)
  rw [hl] at this
  exact this
/-- A law that the machine finds true is true. -/
theorem law_holds (K : Cfg) (hgood : GoodCall K.P (R K)) {f : FuncId} {fn : Func} {c : Code} (hf : K.P.funcs[f]? = some fn) (hb : fn.body = some c) (hname : fn.name ≠ "runtime.NumGoroutine") {xs : List Int} {own : Bool} {nx : Nat} {hp : Heap} (hR : R K f [.lst (ints xs)] 0 0 [] = some ⟨.bool true, own, nx, hp⟩)
    {W : World} {a : Option Addr} {cap : Nat} (hcap : xs.length ≤ cap) (hc : ∀ (i : Nat) p, xs[i]? = some p → ∃ x, a = some x ∧ W.cell? (x.add i) = some (.int .i64 p)) :
    Calls K.P f #[.slice a xs.length cap] W fun e w' => e = .returned (.bool true) ∧ Below W.heap.size W w' := by
  have h := hgood f _ 0 0 [] _ hR (Cx.door W a xs.length) W.heap.size (fun _ _ => False) W [.slice a xs.length cap] rfl (door_ok hc) rfl (fun i a' v ha hv => by
    cases i with
    | zero => simp at ha hv; subst ha hv; exact door_arg hcap hc
    | succ i => simp at ha)
  have h2 := h ⟨some 0, .alloc 0, 0, "", #[], none⟩ ⟨#[undef], []⟩ (fun a' w' => ∃ v, a'.tmps[0]? = some v ∧ Left (Cx.door W a xs.length) W.heap.size (fun _ _ => False) W ⟨.bool true, own, nx, hp⟩ v w') (fun _ _ _ => False) (fun v w' hl => ⟨v, by simp [Act.put], hl⟩)
  have hcf : (callFunc f [Value.slice a xs.length cap].toArray).run K.P W = .ok (.enter f [Value.slice a xs.length cap].toArray) W := by
    simp [callFunc, hf, hname, hb]
  rw [show (Cx.door W a xs.length).w = W from rfl, hcf] at h2
  refine Calls.mono h2 fun e w' he => ?_
  cases e with
  | returned v =>
    obtain ⟨v', hv', D, rfl, le, _, hW, hr, _⟩ := he
    simp [Act.put] at hv'
    subst hv'
    exact ⟨by rw [hr.bool_inv], hW.heap.below⟩
  | panicked ch => exact he.elim
  | outgrown => obtain ⟨_, _, he⟩ := he; exact he.elim
end Go.Proofs.YtleimfinniclgaaDoor.M
