/- The machine is right: operations one behind the other, code. -/
import Derived.Test.YtleimfinniclgaaDoorMR
import Derived.Test.YtleimfinniclgaaDoorMSA
import Derived.Test.YtleimfinniclgaaDoorMH
import Derived.LoopN
namespace Go.Proofs.YtleimfinniclgaaDoor.M
open Go.RowKit
set_option linter.unusedVariables false
set_option linter.unusedSimpArgs false

section
variable {P : Program} {C : Cx} {B : Nat} {F : Nat → Nat → Prop} {w0 : World} {hp : Heap} {tm : List Cell} {ct : Array Value}

theorem undef_rv : RV C (.tup []) undef := RV.tup [] [] rfl (fun i a v hi => by simp at hi)
theorem wanted_eq (h : WRel C B F w0 hp tm ct) (ops : Array Oper) (o : Oper) {b : Bool} (hb : awanted ops tm o = some b) : Region.wanted o (yielded ops ct) = b := by
  unfold awanted at hb
  unfold Region.wanted
  cases hg : o.guard with
  | none => rw [hg] at hb; cases hb; rfl
  | some q =>
    obtain ⟨j, want⟩ := q
    rw [hg] at hb
    simp only at hb ⊢
    unfold yielded
    cases hd : (ops[j]?).bind (·.dst) with
    | none => rw [hd] at hb; simp only at hb; cases hb; rfl
    | some t =>
      rw [hd] at hb
      simp only [Option.bind_some] at hb ⊢
      cases ht : tm[t]? with
      | none => rw [ht] at hb; cases hb
      | some c =>
        rw [ht] at hb
        obtain ⟨v, hv, hr⟩ := h.tmp t c ht
        rw [hv]
        obtain ⟨x, f⟩ := c
        simp only at hr
        cases hr <;> simp only [gate] at hb <;> first | (cases hb; done) | (cases hb; first | rfl | simp)
theorem sound_ops {call : CallF} (hcall : GoodCall P call) (ops : Array Oper) (ro : Md) (ds : List Deferred) (Q : Exit → Act → World → Prop) : ∀ (l : List Nat) (os : List Oper), l.map (fun i => ops[i]?) = os.map some → ∀ (C : Cx) (tm : List Cell) (hp : Heap) (ct : Array Value) (s' : St),
    WRel C B F w0 hp tm ct → aops P call ops ro os ⟨tm, C.nx, hp⟩ = some s' → (∀ (D : Cx) ct', C.Le D → D.nx = s'.nx → WRel D B F w0 s'.hp s'.tm ct' → Q .normal ⟨ct', ds⟩ D.w) → wpOps P ops Q l ⟨ct, ds⟩ C.w := by
  intro l
  induction l with
  | nil =>
    intro os hos C tm hp ct s' h hr hQ
    have : os = [] := by simpa using hos.symm
    subst this
    injection hr with hr; subst hr
    exact hQ C ct (Cx.Le.refl C) rfl h
  | cons i l ih =>
    intro os hos C tm hp ct s' h hr hQ
    cases os with
    | nil => simp at hos
    | cons o os =>
      simp only [List.map_cons, List.cons.injEq] at hos
      obtain ⟨ho, hos⟩ := hos
      simp only [aops] at hr
      obtain ⟨s1, h1, h2⟩ := Option.bind_eq_some_iff.1 hr
      unfold astep at h1
      simp only [wpOps, ho]
      cases hw : awanted ops tm o with
      | none => simp only [hw] at h1; cases h1
      | some q =>
        simp only [hw] at h1
        have hwe := wanted_eq h ops o hw
        simp only [hwe]
        cases q with
        | false =>
          simp only at h1
          injection h1 with h1; subst h1
          simp only [Bool.false_eq_true, if_false]
          cases hd : o.dst with
          | none =>
            rw [hd] at h2
            exact ih os hos C tm hp ct s' h h2 hQ
          | some d =>
            rw [hd] at h2
            exact ih os hos C (tm.set d (.tup [], false)) hp (ct.setIfInBounds d undef) s' (h.put d undef_rv) h2 hQ
        | true =>
          simp only at h1
          obtain ⟨q, hq, rfl⟩ := Option.map_eq_some_iff.1 h1
          simp only [if_true]
          refine .inl (sound_oper hcall h ds ops ro o hq _ Q fun D u le hx hW => ?_)
          have hput : ((⟨ct, ds⟩ : Act).put o.dst u) = ⟨((⟨ct, ds⟩ : Act).put o.dst u).tmps, ds⟩ := by
            cases o.dst <;> rfl
          rw [hput]
          have hs1 : (q.put o.dst tm) = ⟨(q.put o.dst tm).tm, D.nx, q.hp⟩ := by rw [hx]; rfl
          rw [hs1] at h2
          exact ih os hos D _ _ _ s' hW h2 (fun E ct' le' hx' hW' => hQ E ct' (le.trans le') hx' hW')
theorem range_map (ops : Array Oper) : (List.range ops.size).map (fun i => ops[i]?) = ops.toList.map some := by
  apply List.ext_getElem (by simp)
  intro i h1 h2
  simp at h1
  simp [h1]
def toExit : AExit → Exit
  | .normal => .normal
  | .ret => .ret
  | .exit id => .exit id
/-- A run in which two new variables may change places. -/
inductive DRun (P : Program) (call : CallF) (ops : Array Oper) (ro : Md) (k : Nat) : List Oper → St → St → Prop
  | nil (s : St) : DRun P call ops ro k [] s s
  | op {o : Oper} {os : List Oper} {s s1 s' : St} : astep P call ops ro o s = some s1 → DRun P call ops ro k os s1 s' → DRun P call ops ro k (o :: os) s s'
  | sw {n : Nat} {os : List Oper} {s1 s2 s' : St} : k ≤ n → Sw n s1 s2 → DRun P call ops ro k os s2 s' → DRun P call ops ro k os s1 s'
theorem sound_drun {call : CallF} (hcall : GoodCall P call) (ops : Array Oper) (ro : Md) (ds : List Deferred) (Q : Exit → Act → World → Prop) {k : Nat} {C0 : Cx} (h0 : C0.nx = k) {os : List Oper} {s s' : St} (hr : DRun P call ops ro k os s s') : ∀ (l : List Nat), l.map (fun i => ops[i]?) = os.map some → ∀ (C : Cx) (ct : Array Value),
    C0.Le C → C.nx = s.nx → WRel C B F w0 s.hp s.tm ct → (∀ (D : Cx) ct', C0.Le D → D.nx = s'.nx → WRel D B F w0 s'.hp s'.tm ct' → Q .normal ⟨ct', ds⟩ D.w) → wpOps P ops Q l ⟨ct, ds⟩ C.w := by
  induction hr with
  | nil s =>
    intro l hl C ct le hx h hQ
    have : l = [] := by simpa using hl
    subst this
    exact hQ C ct le hx h
  | @sw n os s1 s2 s' hk hs _ ih =>
    intro l hl C ct le hx h hQ
    obtain ⟨D, hw, hx', hle, hW⟩ := h.swap hx hs
    have := ih l hl D ct (hle C0 (by omega) le) hx' hW hQ
    rwa [hw] at this
  | @op o os s s1 s' h1 _ ih =>
    intro l hl C ct le hx h hQ
    cases l with
    | nil => simp at hl
    | cons i l =>
      simp only [List.map_cons, List.cons.injEq] at hl
      obtain ⟨ho, hl⟩ := hl
      obtain ⟨tm, nx, hp⟩ := s
      simp only at hx h
      subst hx
      unfold astep at h1
      simp only [wpOps, ho]
      cases hw : awanted ops tm o with
      | none => simp only [hw] at h1; cases h1
      | some q =>
        simp only [hw] at h1
        have hwe := wanted_eq h ops o hw
        simp only [hwe]
        cases q with
        | false =>
          simp only at h1
          injection h1 with h1; subst h1
          simp only [Bool.false_eq_true, if_false]
          cases hd : o.dst with
          | none => rw [hd] at ih; exact ih l hl C ct le rfl h hQ
          | some d => rw [hd] at ih; exact ih l hl C (ct.setIfInBounds d undef) le rfl (h.put d undef_rv) hQ
        | true =>
          simp only at h1
          obtain ⟨q, hq, rfl⟩ := Option.map_eq_some_iff.1 h1
          simp only [if_true]
          refine .inl (sound_oper hcall h ds ops ro o hq _ Q fun D u le' hx hW => ?_)
          have hput : ((⟨ct, ds⟩ : Act).put o.dst u) = ⟨((⟨ct, ds⟩ : Act).put o.dst u).tmps, ds⟩ := by
            cases o.dst <;> rfl
          rw [hput]
          exact ih l hl D _ (le.trans le') hx hW hQ
/-- Regions that draw their order. -/
def Draws (P : Program) (kd : Knd) (call : CallF) : Prop := ∀ (ops : Array Oper) (t : Nat) (ro : Md) (s s' : St), WF s.nx s.tm s.hp → areg P kd call ops ro true s = some s' →
  ∃ os : List Oper, (Region.schedule (P.follows .mixedOrders) ops t).map (fun i => ops[i]?) = os.map some ∧ DRun P call ops ro s.nx os s s'
theorem sound_exec {call : CallF} {kd : Knd} (hcall : GoodCall P call) (hdr : Draws P kd call) (ro : Md) (ds : List Deferred) : ∀ (n : Nat) (c : Code) (C : Cx) (tm : List Cell) (hp : Heap) (ct : Array Value) (x : AExit) (s' : St) (Q : Exit → Act → World → Prop),
    WRel C B F w0 hp tm ct → aexec P kd call ro n c ⟨tm, C.nx, hp⟩ = some (x, s') → (∀ (D : Cx) ct', C.Le D → D.nx = s'.nx → WRel D B F w0 s'.hp s'.tm ct' → Q (toExit x) ⟨ct', ds⟩ D.w) → c.wp P Q ⟨ct, ds⟩ C.w := by
  intro n
  induction n with
  | zero => intro c C tm hp ct x s' Q h hr; simp [aexec] at hr
  | succ n ih =>
    intro c C tm hp ct x s' Q h hr hQ
    cases c with
    | skip => simp only [aexec] at hr; injection hr with hr; injection hr with e1 e2; subst e1 e2; exact wp_skip (hQ C ct (Cx.Le.refl C) rfl h)
    | exit id => simp only [aexec] at hr; injection hr with hr; injection hr with e1 e2; subst e1 e2; exact wp_exit (hQ C ct (Cx.Le.refl C) rfl h)
    | ret => simp only [aexec] at hr; injection hr with hr; injection hr with e1 e2; subst e1 e2; exact wp_ret (hQ C ct (Cx.Le.refl C) rfl h)
    | region id ops d =>
      simp only [aexec] at hr
      obtain ⟨s1, hs1, e⟩ := Option.map_eq_some_iff.1 hr
      injection e with e1 e2; subst e1 e2
      cases d with
      | false => exact wp_region (sound_ops hcall ops ro ds Q _ _ (range_map ops) C tm hp ct s1 h hs1 hQ)
      | true =>
        refine wp_region_draw fun t => ?_
        obtain ⟨os, ho1, ho2⟩ := hdr ops t ro ⟨tm, C.nx, hp⟩ _ h.wf hs1
        obtain ⟨D, hw, le, hx, hW⟩ := h.drew
        rw [show ({ C.w with drawn := C.w.drawn + 1 } : World) = D.w from hw.symm]
        exact sound_drun hcall ops ro ds Q hx ho2 _ ho1 D ct (Cx.Le.refl D) hx hW (fun E ct' le' hx' hW' => hQ E ct' (le.trans le') hx' hW')
    | seq a b =>
      simp only [aexec] at hr
      cases ha : aexec P kd call ro n a ⟨tm, C.nx, hp⟩ with
      | none => rw [ha] at hr; cases hr
      | some q =>
        rw [ha] at hr
        obtain ⟨y, s1⟩ := q
        refine wp_seq (ih a C tm hp ct y s1 _ h ha fun D ct' le hx hW => ?_)
        cases y with
        | normal =>
          show b.wp P Q ⟨ct', ds⟩ D.w
          have hr' : aexec P kd call ro n b ⟨s1.tm, D.nx, s1.hp⟩ = some (x, s') := by rw [hx]; exact hr
          exact ih b D s1.tm s1.hp ct' x s' Q hW hr' (fun E ct2 le' hx' hW' => hQ E ct2 (le.trans le') hx' hW')
        | ret => simp only at hr; injection hr with hr; injection hr with e1 e2; subst e1 e2; exact hQ D ct' le hx hW
        | exit j => simp only at hr; injection hr with hr; injection hr with e1 e2; subst e1 e2; exact hQ D ct' le hx hW
    | cond c a b =>
      simp only [aexec] at hr
      have hc := h.ev c ds
      cases hv : evv tm c <;> rw [hv] at hr <;> (try simp only at hr) <;> try (cases hr; done)
      rename_i q
      have hv' : (ev tm c).1 = .bool q := hv
      rw [hv'] at hc
      refine wp_cond hc.bool_inv ?_
      cases q with
      | true => exact ih a C tm hp ct x s' Q h hr hQ
      | false => exact ih b C tm hp ct x s' Q h hr hQ
    | block id b =>
      simp only [aexec] at hr
      cases ha : aexec P kd call ro n b ⟨tm, C.nx, hp⟩ with
      | none => rw [ha] at hr; cases hr
      | some q =>
        rw [ha] at hr
        obtain ⟨y, s1⟩ := q
        refine wp_block (ih b C tm hp ct y s1 _ h ha fun D ct' le hx hW => ?_)
        cases y with
        | normal => simp only at hr; injection hr with hr; injection hr with e1 e2; subst e1 e2; exact hQ D ct' le hx hW
        | ret => simp only at hr; injection hr with hr; injection hr with e1 e2; subst e1 e2; exact hQ D ct' le hx hW
        | exit j =>
          simp only at hr
          show (if j = id then Q .normal _ _ else Q (.exit j) _ _)
          split at hr
          · rename_i hj
            rw [if_pos hj]
            injection hr with hr; injection hr with e1 e2; subst e1 e2
            exact hQ D ct' le hx hW
          · rename_i hj
            rw [if_neg hj]
            injection hr with hr; injection hr with e1 e2; subst e1 e2
            exact hQ D ct' le hx hW
    | loop b =>
      have key : ∀ m, m ≤ n + 1 → ∀ (C : Cx) (tm : List Cell) (hp : Heap) (ct : Array Value), WRel C B F w0 hp tm ct → aexec P kd call ro m (.loop b) ⟨tm, C.nx, hp⟩ = some (x, s') → (∀ (D : Cx) ct', C.Le D → D.nx = s'.nx → WRel D B F w0 s'.hp s'.tm ct' → Q (toExit x) ⟨ct', ds⟩ D.w) → Code.rounds P b Q m ⟨ct, ds⟩ C.w := by
        intro m
        induction m with
        | zero => intro _ C tm hp ct h hr; simp [aexec] at hr
        | succ m ihm =>
          intro hm C tm hp ct h hr hQ
          simp only [aexec] at hr
          cases ha : aexec P kd call ro m b ⟨tm, C.nx, hp⟩ with
          | none => rw [ha] at hr; cases hr
          | some q =>
            rw [ha] at hr
            obtain ⟨y, s1⟩ := q
            rw [rounds_succ]
            have ha' := aexec_mono (CallF.le.refl call) ro m n b _ (by omega) ha
            refine ih b C tm hp ct y s1 _ h ha' fun D ct' le hx hW => ?_
            cases y with
            | normal =>
              show Code.rounds P b Q m ⟨ct', ds⟩ D.w
              have hr' : aexec P kd call ro m (.loop b) ⟨s1.tm, D.nx, s1.hp⟩ = some (x, s') := by rw [hx]; exact hr
              exact ihm (by omega) D s1.tm s1.hp ct' hW hr' (fun E ct2 le' hx' hW' => hQ E ct2 (le.trans le') hx' hW')
            | ret => simp only at hr; injection hr with hr; injection hr with e1 e2; subst e1 e2; exact hQ D ct' le hx hW
            | exit j => simp only at hr; injection hr with hr; injection hr with e1 e2; subst e1 e2; exact hQ D ct' le hx hW
      exact wp_loop_rounds (n + 1) (key (n + 1) (Nat.le_refl _) C tm hp ct h hr hQ)
    | scope b => simp only [aexec] at hr; cases hr
    | rangeFunc f ps a b => simp only [aexec] at hr; cases hr
    | label l => simp only [aexec] at hr; cases hr
    | goto l => simp only [aexec] at hr; cases hr
    | refuse w => simp only [aexec] at hr; cases hr
end
end Go.Proofs.YtleimfinniclgaaDoor.M
