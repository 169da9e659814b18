/- The machine's equations in the form in which simp runs them. -/
import Derived.Test.YtleimfinniclgaaDoorMH
namespace Go.Proofs.YtleimfinniclgaaDoor.M
set_option linter.unusedVariables false

/-- Operations behind a state that may be still a question. -/
noncomputable def OS (K : Cfg) (ops : Array Oper) (ro : Md) (l : List Oper) (x : Option St) : Option St := x.bind (aops K.P (R K) ops ro l)
/-- Code behind code. -/
noncomputable def XK (K : Cfg) (ro : Md) (c : Code) : Option (AExit × St) → Option (AExit × St)
  | some (.normal, s) => X K ro c s
  | r => r
def XN : Option St → Option (AExit × St)
  | some s => some (.normal, s)
  | none => none
def XBk (id : Nat) : Option (AExit × St) → Option (AExit × St)
  | some (.exit j, s) => if j = id then some (.normal, s) else some (.exit j, s)
  | r => r
def XR (P : Program) (rs : List ResultVar) : Option (AExit × St) → Option Res
  | some (.normal, s) | some (.ret, s) => (aresults P rs s).map fun c => ⟨c.1, c.2, s.nx, s.hp⟩
  | _ => none
section
variable (K : Cfg) (ro : Md) (ops : Array Oper)
theorem OS_nil (x : Option St) : OS K ops ro [] x = x := by cases x <;> rfl
theorem OS_cons (o : Oper) (r : List Oper) (s : St) : OS K ops ro (o :: r) (some s) = OS K ops ro r (astep K.P (R K) ops ro o s) := rfl
theorem OS_none (r : List Oper) : OS K ops ro r none = none := rfl
theorem Y_region (id : Nat) (l : List Oper) (s : St) : X K ro (.region id l.toArray false) s = XN (OS K l.toArray ro l (some s)) := by
  rw [X_region]
  show Option.map _ (aops K.P (R K) l.toArray ro l s) = XN (aops K.P (R K) l.toArray ro l s)
  cases aops K.P (R K) l.toArray ro l s <;> rfl
/-- Operations whose order is drawn. -/
noncomputable def OD (K : Cfg) (ops : Array Oper) (ro : Md) (j : Nat) (l : List Oper) (tr : List (Nat × Heap × Heap)) (fs : List (Nat × Option Nat)) (x : Option St) : Option St := x.bind (aopsD K.P (R K) ops ro j (l.map fun o => (o, o.after.toList.map (·.on))) tr fs)
theorem zip_map {α β : Type} (f : α → β) : ∀ l : List α, l.zip (l.map f) = l.map fun a => (a, f a)
  | [] => rfl
  | a :: l => by simp [zip_map f l]
theorem Y_dregion (id : Nat) (l : List Oper) (s : St) : X K ro (.region id l.toArray true) s = XN (OD K l.toArray ro 0 l [] [] (some s)) := by
  rw [X_region]
  have e : areg K.P (K.kd true) (R K) l.toArray ro true s = OD K l.toArray ro 0 l [] [] (some s) := by
    show aopsD K.P (R K) l.toArray ro 0 (l.zip (l.map _)) [] [] s = _
    rw [zip_map]
    rfl
  rw [e]
  cases OD K l.toArray ro 0 l [] [] (some s) <;> rfl
theorem Y_seq (a b : Code) (s : St) : X K ro (.seq a b) s = XK K ro b (X K ro a s) := by
  rw [X_seq]
  cases X K ro a s with
  | none => rfl
  | some q => obtain ⟨x, s⟩ := q; cases x <;> rfl
theorem Y_block (id : Nat) (b : Code) (s : St) : X K ro (.block id b) s = XBk id (X K ro b s) := by
  rw [X_block]
  cases X K ro b s with
  | none => rfl
  | some q => obtain ⟨x, s⟩ := q; cases x <;> rfl
theorem Y_loop (b : Code) (s : St) : X K ro (.loop b) s = XK K ro (.loop b) (X K ro b s) := by
  rw [X_loop]
  cases X K ro b s with
  | none => rfl
  | some q => obtain ⟨x, s⟩ := q; cases x <;> rfl
theorem XK_normal (c : Code) (s : St) : XK K ro c (some (.normal, s)) = X K ro c s := rfl
theorem XK_ret (c : Code) (s : St) : XK K ro c (some (.ret, s)) = some (.ret, s) := rfl
theorem XK_exit (c : Code) (j : Nat) (s : St) : XK K ro c (some (.exit j, s)) = some (.exit j, s) := rfl
theorem XK_none (c : Code) : XK K ro c none = none := rfl
theorem XN_some (s : St) : XN (some s) = some (.normal, s) := rfl
theorem XN_none : XN none = none := rfl
theorem XBk_normal (id : Nat) (s : St) : XBk id (some (.normal, s)) = some (.normal, s) := rfl
theorem XBk_ret (id : Nat) (s : St) : XBk id (some (.ret, s)) = some (.ret, s) := rfl
theorem XBk_exit (id j : Nat) (s : St) : XBk id (some (.exit j, s)) = if j = id then some (.normal, s) else some (.exit j, s) := rfl
theorem XR_normal (P : Program) (rs : List ResultVar) (s : St) : XR P rs (some (.normal, s)) = (aresults P rs s).map fun c => ⟨c.1, c.2, s.nx, s.hp⟩ := rfl
theorem XR_ret (P : Program) (rs : List ResultVar) (s : St) : XR P rs (some (.ret, s)) = (aresults P rs s).map fun c => ⟨c.1, c.2, s.nx, s.hp⟩ := rfl
theorem XB_eq0 (ro : Md) (fn : Func) (args : List AVal) (nx : Nat) (hp : Heap) {c : Code} (hb : fn.body = some c) : XB K ro fn args nx hp = XR K.P fn.results.toList (XX false K ro c { tm := args.map (·, false) ++ List.replicate (fn.ntmps - args.length) (.tup [], false), nx, hp }) := by
  unfold XB
  rw [hb]
  simp only
  cases XX false K ro c { tm := args.map (·, false) ++ List.replicate (fn.ntmps - args.length) (.tup [], false), nx, hp } with
  | none => rfl
  | some q => obtain ⟨x, s⟩ := q; cases x <;> rfl
theorem R_core (ro : Nat) (f : FuncId) (args : List AVal) (nx : Nat) (hp : Heap) {fn : Func} {c : Code} (hf : K.P.funcs[f]? = some fn) (hb : fn.body = some c) (hv : K.vl f = false) (he : K.ext f args (low K f ro nx) nx hp = none) :
    R K f args ro nx hp = Fin K f nx hp (XR K.P fn.results.toList (XX false K ⟨low K f ro nx, K.mu f⟩ c { tm := args.map (·, false) ++ List.replicate (fn.ntmps - args.length) (.tup [], false), nx, hp })) := by
  rw [R_eq]
  unfold vlc core
  rw [if_neg (by rw [hv]; decide)]
  dsimp only
  rw [he, hf]
  dsimp only
  rw [XB_eq0 K _ fn args nx hp hb]
theorem R_coreV (ro : Nat) (f : FuncId) (args : List AVal) (nx : Nat) (hp : Heap) {fn : Func} {c : Code} (hf : K.P.funcs[f]? = some fn) (hb : fn.body = some c) (hv : K.vl f = true) (hi : idsLts 0 args = true) (he : K.ext f args 0 0 [] = none) :
    R K f args ro nx hp = lift nx hp (Sealed 0 [] (XR K.P fn.results.toList (XX false K ⟨0, K.mu f⟩ c { tm := args.map (·, false) ++ List.replicate (fn.ntmps - args.length) (.tup [], false), nx := 0, hp := [] }))) := by
  have hp' : K.pure f = true := by unfold Cfg.vl at hv; simp at hv; exact hv.2
  have hl : low K f 0 0 = 0 := by unfold low; rw [if_pos hp']
  rw [R_eq]
  unfold vlc core Fin
  rw [if_pos hv, if_pos hi]
  dsimp only
  rw [if_pos hp', hl, he, hf]
  dsimp only
  rw [XB_eq0 K _ fn args 0 [] hb]
end
/-- An operation without what the machine does not look at. -/
def O (d : Option Tmp) (op : Op) (g : Option (Nat × Bool)) : Oper := ⟨d, op, 0, "", #[], g⟩
def slimO (o : Oper) : Oper := O o.dst o.op o.guard
/-- An operation that tells which pairs are to be looked at. -/
def OA (d : Option Tmp) (op : Op) (g : Option (Nat × Bool)) (q : List Nat) : Oper := ⟨d, op, 0, "", (q.map fun i => (⟨i, .data⟩ : Edge)).toArray, g⟩
def annO (p : Oper × List Nat) : Oper := OA p.1.dst p.1.op p.1.guard p.2
/-- Code without what the machine does not look at; the data tell the regions in which pairs are to be looked at. -/
def slim (dt : List (Nat × List (List Nat))) : Code → Code
  | .region id ops _ => match dt.lookup id with
    | some q => .region id ((ops.toList.zip q).map annO).toArray true
    | none => .region id (ops.toList.map slimO).toArray false
  | .seq a b => .seq (slim dt a) (slim dt b)
  | .cond c a b => .cond c (slim dt a) (slim dt b)
  | .block id b => .block id (slim dt b)
  | .loop b => .loop (slim dt b)
  | c => c
/-- The data are right. -/
def drawsOk (kd : Knd) (mu : List TypeId) (dt : List (Nat × List (List Nat))) : Code → Bool
  | .region id ops d => match dt.lookup id with
    | some q => d && q.length == ops.size && qAll kd mu ops == some q
    | none => !d || qAll kd mu ops == some (List.replicate ops.size [])
  | .seq a b => drawsOk kd mu dt a && drawsOk kd mu dt b
  | .cond _ a b => drawsOk kd mu dt a && drawsOk kd mu dt b
  | .block _ b => drawsOk kd mu dt b
  | .loop b => drawsOk kd mu dt b
  | _ => true
theorem feeds_slim (ops : Array Oper) (d : Option Tmp) : feeds (ops.toList.map slimO).toArray d = feeds ops d := by
  cases d with
  | none => rfl
  | some t =>
    unfold feeds
    simp only [List.any_map, ← Array.any_toList]
    rfl
theorem stored_slim (ops : Array Oper) (d : Option Tmp) : stored (ops.toList.map slimO).toArray d = stored ops d := by
  cases d with
  | none => rfl
  | some t =>
    unfold stored
    simp only [List.any_map, ← Array.any_toList]
    rfl
theorem makes_slim (ops : Array Oper) (t : Tmp) : makes (ops.toList.map slimO).toArray t = makes ops t := by
  unfold makes
  simp only [List.any_map, ← Array.any_toList]
  rfl
section
variable {P : Program} {call : CallF}
theorem aload_slim (ops : Array Oper) (ro : Md) (d : Option Tmp) (t : TypeId) (a : AVal) (nx : Nat) (hp : Heap) : aload P (ops.toList.map slimO).toArray ro d t a nx hp = aload P ops ro d t a nx hp := by
  unfold aload
  simp only [feeds_slim]
theorem astore_slim (ops : Array Oper) (ro : Md) (t : TypeId) (a : AVal) (x : Operand) (c : Cell) (nx : Nat) (hp : Heap) : astore P (ops.toList.map slimO).toArray ro t a x c nx hp = astore P ops ro t a x c nx hp := by
  unfold astore
  simp only [makes_slim]
theorem aeff_slim (ops : Array Oper) (ro : Md) (o : Oper) (ρ : Rho) (nx : Nat) (hp : Heap) : aeff P call (ops.toList.map slimO).toArray ro (slimO o) ρ nx hp = aeff P call ops ro o ρ nx hp := by
  have : aeff0 P (ops.toList.map slimO).toArray ro (slimO o) ρ nx hp = aeff0 P ops ro o ρ nx hp := by
    unfold aeff0
    simp only [feeds_slim, makes_slim, stored_slim, aload_slim, astore_slim]
    rfl
  unfold aeff
  show (match o.op with | .call c => acall P call ro c ρ nx hp | _ => aeff0 P (ops.toList.map slimO).toArray ro (slimO o) ρ nx hp) = _
  rw [this]
  cases o.op <;> rfl
theorem awanted_slim (ops : Array Oper) (tm : List Cell) (o : Oper) : awanted (ops.toList.map slimO).toArray tm (slimO o) = awanted ops tm o := by
  unfold awanted
  rw [show (slimO o).guard = o.guard from rfl]
  cases o.guard with
  | none => rfl
  | some q =>
    obtain ⟨j, want⟩ := q
    simp only [List.getElem?_toArray, List.getElem?_map, Array.getElem?_toList]
    cases ops[j]? <;> rfl
theorem astep_slim (ops : Array Oper) (ro : Md) (o : Oper) (s : St) : astep P call (ops.toList.map slimO).toArray ro (slimO o) s = astep P call ops ro o s := by
  unfold astep
  rw [awanted_slim, aeff_slim]
  rfl
theorem aops_slim (ops : Array Oper) (ro : Md) : ∀ (l : List Oper) (s : St), aops P call (ops.toList.map slimO).toArray ro (l.map slimO) s = aops P call ops ro l s := by
  intro l
  induction l with
  | nil => intro s; rfl
  | cons o l ih =>
    intro s
    simp only [List.map_cons, aops, astep_slim]
    congr 1
    funext s
    exact ih s
theorem rdr_slim (mu : List TypeId) (ops : Array Oper) (o : Oper) : rdr mu (ops.toList.map slimO).toArray (slimO o) = rdr mu ops o := by
  unfold rdr
  simp only [feeds_slim]
  rfl
/-- Arrays that are alike but for what the machine does not look at. -/
theorem like {ops ops' : Array Oper} (h : ops'.toList.map slimO = ops.toList.map slimO) (ro : Md) (o o' : Oper) (ho : slimO o' = slimO o) (s : St) : astep P call ops' ro o' s = astep P call ops ro o s ∧ rdr ro.mu ops' o' = rdr ro.mu ops o ∧ footAt o' s = footAt o s := by
  refine ⟨?_, ?_, ?_⟩
  · rw [← astep_slim ops', ← astep_slim ops, h, ho]
  · rw [← rdr_slim _ ops', ← rdr_slim _ ops, h, ho]
  · have : ∀ o : Oper, footAt (slimO o) s = footAt o s := fun o => rfl
    rw [← this o', ← this o, ho]
theorem aopsD_like {ops ops' : Array Oper} (h : ops'.toList.map slimO = ops.toList.map slimO) (ro : Md) : ∀ (l l' : List (Oper × List Nat)), l'.map (fun p => (slimO p.1, p.2)) = l.map (fun p => (slimO p.1, p.2)) → ∀ j tr fs s, aopsD P call ops' ro j l' tr fs s = aopsD P call ops ro j l tr fs s := by
  intro l
  induction l with
  | nil => intro l' hl j tr fs s; cases l' with | nil => rfl | cons p l' => cases hl
  | cons p l ih =>
    intro l' hl j tr fs s
    cases l' with
    | nil => cases hl
    | cons p' l' =>
      obtain ⟨o, q⟩ := p
      obtain ⟨o', q'⟩ := p'
      simp only [List.map_cons, List.cons.injEq, Prod.mk.injEq] at hl
      obtain ⟨⟨h1, rfl⟩, h2⟩ := hl
      obtain ⟨e1, e2, e3⟩ := like (P := P) (call := call) h ro o o' h1 s
      simp only [aopsD, e1, e2, e3]
      cases astep P call ops ro o s with
      | none => rfl
      | some s1 => simp only [ih l' h2]
theorem aopsD_none (ops : Array Oper) (ro : Md) : ∀ (l : List (Oper × List Nat)), (∀ p ∈ l, p.2 = []) → ∀ j tr fs s, aopsD P call ops ro j l tr fs s = aops P call ops ro (l.map (·.1)) s := by
  intro l
  induction l with
  | nil => intro _ j tr fs s; rfl
  | cons p l ih =>
    obtain ⟨o, q⟩ := p
    intro hl j tr fs s
    have hq : q = [] := hl _ (.head _)
    subst hq
    have ih := ih fun p hp => hl p (.tail _ hp)
    simp only [aopsD, List.map_cons, aops]
    cases astep P call ops ro o s with
    | none => rfl
    | some s1 =>
      simp only [ih, Option.bind_some]
      split <;> rfl
theorem aexec_slim (pu vl : FuncId → Bool) (ro : Md) (dt : List (Nat × List (List Nat))) : ∀ (n : Nat) (c : Code) (s : St), drawsOk ⟨pu, vl, false⟩ ro.mu dt c = true → aexec P ⟨pu, vl, true⟩ call ro n (slim dt c) s = aexec P ⟨pu, vl, false⟩ call ro n c s := by
  intro n
  induction n with
  | zero => intro c s _; rfl
  | succ n ih =>
    intro c s hd
    cases c with
    | region id ops d =>
      simp only [drawsOk] at hd
      simp only [slim]
      cases hq : dt.lookup id with
      | none =>
        rw [hq] at hd
        simp only at hd ⊢
        simp only [aexec]
        have e : areg P ⟨pu, vl, true⟩ call (ops.toList.map slimO).toArray ro false s = areg P ⟨pu, vl, false⟩ call ops ro d s := by
          have e1 : areg P ⟨pu, vl, true⟩ call (ops.toList.map slimO).toArray ro false s = aops P call ops ro ops.toList s := aops_slim ops ro ops.toList s
          rw [e1]
          cases d with
          | false => rfl
          | true =>
            have h2 : qAll ⟨pu, vl, false⟩ ro.mu ops = some (List.replicate ops.size []) := by simpa using hd
            have e2 : areg P ⟨pu, vl, false⟩ call ops ro true s = aopsD P call ops ro 0 (ops.toList.zip (List.replicate ops.size [])) [] [] s := by
              unfold areg qOf
              simp only [if_true, Bool.false_eq_true, if_false, h2]
            rw [e2, aopsD_none ops ro _ (fun p hp => by
              obtain ⟨_, h⟩ := List.of_mem_zip hp
              exact (List.mem_replicate.1 h).2)]
            congr 1
            rw [← List.unzip_fst, List.unzip_zip_left (by simp)]
        rw [e]
      | some q =>
        rw [hq] at hd
        simp only [Bool.and_eq_true, beq_iff_eq] at hd
        obtain ⟨⟨hd1, hlen⟩, h2⟩ := hd
        subst hd1
        simp only [aexec]
        have e : areg P ⟨pu, vl, true⟩ call ((ops.toList.zip q).map annO).toArray ro true s = areg P ⟨pu, vl, false⟩ call ops ro true s := by
          unfold areg qOf
          simp only [if_true, Bool.false_eq_true, if_false, h2]
          have hz : ∀ (l : List (Oper × List Nat)), (l.map annO).zip ((l.map annO).map fun o => o.after.toList.map (·.on)) = l.map fun p => (annO p, p.2) := by
            intro l
            rw [zip_map, List.map_map]
            refine List.map_congr_left fun p _ => ?_
            simp [annO, OA, Function.comp_def]
          rw [hz]
          refine aopsD_like ?_ ro _ _ ?_ 0 [] [] s
          · simp only [List.map_map]
            have : (slimO ∘ annO) = slimO ∘ Prod.fst := rfl
            rw [this, ← List.map_map, ← List.unzip_fst, List.unzip_zip_left (by simp [hlen])]
          · rw [List.map_map]; rfl
        rw [e]
    | seq a b =>
      simp only [drawsOk, Bool.and_eq_true] at hd
      simp only [slim, aexec]
      rw [ih a s hd.1]
      cases aexec P ⟨pu, vl, false⟩ call ro n a s with
      | none => rfl
      | some q =>
        obtain ⟨x, s1⟩ := q
        cases x with
        | normal => exact ih b s1 hd.2
        | ret => rfl
        | exit j => rfl
    | cond c a b =>
      simp only [drawsOk, Bool.and_eq_true] at hd
      simp only [slim, aexec]
      rw [ih a s hd.1, ih b s hd.2]
    | block id b => simp only [slim, aexec]; rw [ih b s hd]
    | loop b =>
      simp only [slim, aexec]
      rw [ih b s hd]
      cases aexec P ⟨pu, vl, false⟩ call ro n b s with
      | none => rfl
      | some q =>
        obtain ⟨x, s1⟩ := q
        cases x with
        | normal => exact ih (.loop b) s1 hd
        | ret => rfl
        | exit j => rfl
    | _ => rfl
end
theorem X_slim (K : Cfg) (ro : Md) (dt : List (Nat × List (List Nat))) (c : Code) (s : St) (hd : drawsOk (K.kd false) ro.mu dt c = true) : X K ro (slim dt c) s = XX false K ro c s := opt_ext fun r => by
  rw [X_iff, XX_iff]
  exact exists_congr fun n => by
    rw [show K.kd true = ⟨K.pure, K.vl, true⟩ from rfl, show K.kd false = ⟨K.pure, K.vl, false⟩ from rfl, aexec_slim _ _ _ _ _ _ _ hd]
theorem Y_loop_eq (K : Cfg) (ro : Md) {L b : Code} (e : L = b) (s : St) : X K ro (.loop L) s = XK K ro (.loop L) (X K ro b s) := by
  subst e
  exact Y_loop K ro L s
/-- The loops of code, by number: the bodies that h tells in their place. -/
def holed (h : Nat → Code) : Code → Nat → Code × Nat
  | .seq a b, i => (.seq (holed h a i).1 (holed h b (holed h a i).2).1, (holed h b (holed h a i).2).2)
  | .cond c a b, i => (.cond c (holed h a i).1 (holed h b (holed h a i).2).1, (holed h b (holed h a i).2).2)
  | .block id b, i => (.block id (holed h b i).1, (holed h b i).2)
  | .loop b, i => (.loop (h i), (holed h b (i + 1)).2)
  | c, i => (c, i)
def loopsOf : Code → List Code
  | .seq a b => loopsOf a ++ loopsOf b
  | .cond _ a b => loopsOf a ++ loopsOf b
  | .block _ b => loopsOf b
  | .loop b => b :: loopsOf b
  | _ => []
/-- The body of a function's loop number i. -/
def LB (P : Program) (f : FuncId) (dt : List (Nat × List (List Nat))) (i : Nat) : Code := match P.funcs[f]? with
  | some fn => match fn.body with
    | some c => (loopsOf (slim dt c)).getD i .skip
    | none => .skip
  | none => .skip
theorem LB_eq {P : Program} {f : FuncId} {fn : Func} {c : Code} (dt : List (Nat × List (List Nat))) (i : Nat) {b : Code} (hf : P.funcs[f]? = some fn) (hb : fn.body = some c) (h : b = (loopsOf (slim dt c)).getD i .skip) : LB P f dt i = b := by
  unfold LB
  rw [hf]
  simp only
  rw [hb, h]
theorem loopsOf_len (h : Nat → Code) : ∀ (c : Code) (i : Nat), (holed h c i).2 = i + (loopsOf c).length := by
  intro c
  induction c with
  | seq a b iha ihb => intro i; simp only [holed, loopsOf, List.length_append, iha, ihb]; omega
  | cond c a b iha ihb => intro i; simp only [holed, loopsOf, List.length_append, iha, ihb]; omega
  | block id b ih => intro i; simp only [holed, loopsOf, ih]
  | loop b ih => intro i; simp only [holed, loopsOf, List.length_cons, ih]; omega
  | _ => intro i; rfl
theorem holed_eq (h : Nat → Code) : ∀ (c : Code) (i : Nat), (∀ (j : Nat) b, (loopsOf c)[j]? = some b → h (i + j) = b) → (holed h c i).1 = c := by
  intro c
  induction c with
  | seq a b iha ihb =>
    intro i hh
    simp only [loopsOf] at hh
    simp only [holed]
    rw [iha i fun j x hj => hh j x (by rw [List.getElem?_append_left (List.getElem?_eq_some_iff.1 hj).1]; exact hj), loopsOf_len, ihb _ fun j x hj => by
      have := hh ((loopsOf a).length + j) x (by rw [List.getElem?_append_right (by omega), Nat.add_sub_cancel_left]; exact hj)
      rw [← this]; congr 1; omega]
  | cond c a b iha ihb =>
    intro i hh
    simp only [loopsOf] at hh
    simp only [holed]
    rw [iha i fun j x hj => hh j x (by rw [List.getElem?_append_left (List.getElem?_eq_some_iff.1 hj).1]; exact hj), loopsOf_len, ihb _ fun j x hj => by
      have := hh ((loopsOf a).length + j) x (by rw [List.getElem?_append_right (by omega), Nat.add_sub_cancel_left]; exact hj)
      rw [← this]; congr 1; omega]
  | block id b ih => intro i hh; simp only [holed]; rw [ih i hh]
  | loop b ih =>
    intro i hh
    simp only [holed]
    rw [show h i = b from hh 0 b rfl]
  | _ => intro i hh; rfl
theorem slim_holed {P : Program} {f : FuncId} {fn : Func} {c : Code} (dt : List (Nat × List (List Nat))) (hf : P.funcs[f]? = some fn) (hb : fn.body = some c) : slim dt c = (holed (LB P f dt) (slim dt c) 0).1 :=
  (holed_eq _ _ 0 fun j b hj => LB_eq dt _ hf hb (by rw [Nat.zero_add, List.getD_eq_getElem?_getD, hj]; rfl)).symm
/-- A loop's body, the loops within it by number. -/
theorem LB_open {P : Program} {f : FuncId} {fn : Func} {c : Code} (dt : List (Nat × List (List Nat))) (i : Nat) {b : Code} (hf : P.funcs[f]? = some fn) (hb : fn.body = some c) (h : (loopsOf (slim dt c)).getD i .skip = b) (h2 : (holed (LB P f dt) b (i + 1)).1 = b) : LB P f dt i = (holed (LB P f dt) b (i + 1)).1 := by
  rw [h2]; exact LB_eq dt i hf hb h.symm
section
variable (K : Cfg) (ro : Nat) (f : FuncId) (args : List AVal) (nx : Nat) (hp : Heap) {fn : Func} {c : Code} {n : Nat} {rs : Array ResultVar} (dt : List (Nat × List (List Nat))) (hf : K.P.funcs[f]? = some fn) (hb : fn.body = some c) (hn : fn.ntmps = n) (hr : fn.results = rs) {mu : List TypeId} (hmu : K.mu f = mu) (hd : drawsOk (K.kd false) mu dt c = true)
include hf hb hn hr hmu hd
/-- A function that does not look at the heap: what it comes to. -/
theorem R_val' (hv : K.vl f = true) (he : K.ext f args 0 0 [] = none) :
    R K f args ro nx hp = if idsLts 0 args = true then lift nx hp (Sealed 0 [] (XR K.P rs.toList (X K ⟨0, mu⟩ (holed (LB K.P f dt) (slim dt c) 0).1 { tm := args.map (·, false) ++ List.replicate (n - args.length) (.tup [], false), nx := 0, hp := [] }))) else none := by
  subst hmu
  by_cases hi : idsLts 0 args = true
  rotate_left
  · rw [if_neg hi, R_eq]
    unfold vlc
    rw [if_pos hv, if_neg hi]
  rw [if_pos hi]
  rw [← slim_holed dt hf hb, X_slim K ⟨0, K.mu f⟩ dt c _ hd, ← hn, ← hr, R_coreV K ro f args nx hp hf hb hv hi he]
/-- A function that changes nothing: what it comes to. -/
theorem R_pure' (hv : K.vl f = false) (hp' : K.pure f = true) (he : K.ext f args nx nx hp = none) :
    R K f args ro nx hp = Sealed nx hp (XR K.P rs.toList (X K ⟨nx, mu⟩ (holed (LB K.P f dt) (slim dt c) 0).1 { tm := args.map (·, false) ++ List.replicate (n - args.length) (.tup [], false), nx, hp })) := by
  subst hmu
  have hl : low K f ro nx = nx := by unfold low; rw [if_pos hp']
  rw [← slim_holed dt hf hb, X_slim K ⟨nx, K.mu f⟩ dt c _ hd, ← hn, ← hr, R_core K ro f args nx hp hf hb hv (by rw [hl]; exact he), hl]
  unfold Fin
  rw [if_pos hp']
theorem R_tidy' (hp' : K.pure f = false) (ht : K.tidy f = true) (he : K.ext f args ro nx hp = none) :
    R K f args ro nx hp = Tidied nx (XR K.P rs.toList (X K ⟨ro, mu⟩ (holed (LB K.P f dt) (slim dt c) 0).1 { tm := args.map (·, false) ++ List.replicate (n - args.length) (.tup [], false), nx, hp })) := by
  subst hmu
  have hl : low K f ro nx = ro := by unfold low; rw [if_neg (by rw [hp']; decide)]
  rw [← slim_holed dt hf hb, X_slim K ⟨ro, K.mu f⟩ dt c _ hd, ← hn, ← hr, R_core K ro f args nx hp hf hb (by unfold Cfg.vl; rw [hp', Bool.and_false]) (by rw [hl]; exact he), hl]
  unfold Fin
  rw [if_neg (by rw [hp']; decide), if_pos ht]
theorem R_body' (hp' : K.pure f = false) (ht : K.tidy f = false) (he : K.ext f args ro nx hp = none) :
    R K f args ro nx hp = XR K.P rs.toList (X K ⟨ro, mu⟩ (holed (LB K.P f dt) (slim dt c) 0).1 { tm := args.map (·, false) ++ List.replicate (n - args.length) (.tup [], false), nx, hp }) := by
  subst hmu
  have hl : low K f ro nx = ro := by unfold low; rw [if_neg (by rw [hp']; decide)]
  rw [← slim_holed dt hf hb, X_slim K ⟨ro, K.mu f⟩ dt c _ hd, ← hn, ← hr, R_core K ro f args nx hp hf hb (by unfold Cfg.vl; rw [hp', Bool.and_false]) (by rw [hl]; exact he), hl]
  unfold Fin
  rw [if_neg (by rw [hp']; decide), if_neg (by rw [ht]; decide)]
end
/-- A loop whose rounds leave the heap alone: it comes to what its last round comes to. -/
theorem loop_run {K : Cfg} {ro : Md} {b : Code} {tm0 : List Cell} {nx : Nat} {hp : Heap} {o : Option (AExit × St)} (ho : X K ro (.loop b) ⟨tm0, nx, hp⟩ = o) (inv : List Cell → Nat → List Cell → Prop) (n0 : Nat) (h0 : inv tm0 n0 tm0) (done : List Cell → Nat → List Cell → Prop)
    (step : ∀ n tm, inv tm0 n tm → done tm0 n tm ∨ ∃ n' tm', n' < n ∧ inv tm0 n' tm' ∧ X K ro b ⟨tm, nx, hp⟩ = some (.normal, ⟨tm', nx, hp⟩)) :
    ∃ n tm, inv tm0 n tm ∧ done tm0 n tm ∧ o = XK K ro (.loop b) (X K ro b ⟨tm, nx, hp⟩) := by
  subst ho
  have key : ∀ n tm, inv tm0 n tm → ∃ n' tm', inv tm0 n' tm' ∧ done tm0 n' tm' ∧ X K ro (.loop b) ⟨tm, nx, hp⟩ = XK K ro (.loop b) (X K ro b ⟨tm', nx, hp⟩) := by
    intro n
    induction n using Nat.strongRecOn with
    | _ n ih =>
      intro tm hi
      rcases step n tm hi with hd | ⟨n', tm', hlt, hi', he⟩
      · exact ⟨n, tm, hi, hd, Y_loop K ro b _⟩
      · obtain ⟨n2, tm2, h1, h2, h3⟩ := ih n' hlt tm' hi'
        refine ⟨n2, tm2, h1, h2, ?_⟩
        rw [Y_loop, he, XK_normal, h3]
  exact key n0 tm0 h0
end Go.Proofs.YtleimfinniclgaaDoor.M
