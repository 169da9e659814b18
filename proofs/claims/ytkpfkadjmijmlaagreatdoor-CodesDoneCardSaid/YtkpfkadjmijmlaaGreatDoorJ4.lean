/- Texts of this claim, joined: A loop by its invariant. -/
import Derived.Test.YtkpfkadjmijmlaaGreatDoorProg
import Derived.KernelRfl
import Derived.Lib.SliceRun
import Derived.Deep.RegionLaw
import Derived.Lib.SlicesDelete
import Derived.Sort.Walk0
import Derived.Test.YtkpfkadjmijmlaaGreatDoorJ1
import Derived.Test.YtkpfkadjmijmlaaGreatDoorJ3
/- What simp does with the machine's code. -/
namespace Go.Proofs.YtkpfkadjmijmlaaGreatDoor.M
set_option linter.unusedVariables false

def getC (tm : List Cell) (i : Nat) : Cell := (tm[i]?).getD (.bad, false)
@[simp] theorem getC_cons (c : Cell) (r : List Cell) (i : Nat) : getC (c :: r) i = ((c :: r)[i]?).getD (.bad, false) := rfl
@[simp] theorem getC_set (tm : List Cell) (i : Nat) (c : Cell) (j : Nat) : getC (tm.set i c) j = if i = j then (if i < tm.length then c else getC tm j) else getC tm j := by
  unfold getC
  rw [List.getElem?_set]
  by_cases h : i = j
  · subst h
    by_cases hl : i < tm.length
    · simp [hl]
    · simp [hl]
  · simp [h]
@[simp] theorem getC_unflag (tm : List Cell) (t j : Nat) : getC (unflag tm t) j = if t = j then ((getC tm j).1, false) else getC tm j := by
  unfold unflag
  by_cases h : t < tm.length
  · rw [List.getElem?_eq_getElem h]
    simp only [getC_set, h, if_true]
    by_cases e : t = j
    · subst e
      simp only [if_true]
      unfold getC
      rw [List.getElem?_eq_getElem h]; rfl
    · simp only [if_neg e]
  · rw [List.getElem?_eq_none (by omega)]
    by_cases e : t = j
    · subst e
      simp only [if_true]
      unfold getC
      rw [List.getElem?_eq_none (by omega)]; rfl
    · simp only [if_neg e]
@[simp] theorem unflag_len (tm : List Cell) (t : Nat) : (unflag tm t).length = tm.length := by
  unfold unflag
  split <;> simp
theorem getC_some {tm : List Cell} {i : Nat} (h : i < tm.length) : tm[i]? = some (getC tm i) := by
  unfold getC
  rw [List.getElem?_eq_getElem h]; rfl
section
variable (K : Cfg) (ro : Md) (ops : Array Oper) (d : Option Tmp) (g : Option (Nat × Bool))
@[simp] theorem O_dst (op : Op) : (O d op g).dst = d := rfl
@[simp] theorem O_op (op : Op) : (O d op g).op = op := rfl
@[simp] theorem O_guard (op : Op) : (O d op g).guard = g := rfl
/-- What an operation gives is laid into its slot. -/
def W (d : Option Tmp) (tm : List Cell) : Option Out → Option St
  | some q => some (q.put d tm)
  | none => none
@[simp] theorem W_some (d : Tmp) (tm : List Cell) (v : AVal) (own : Bool) (nx : Nat) (hp : Heap) : W (some d) tm (some ⟨v, own, none, nx, hp⟩) = some ⟨tm.set d (v, own), nx, hp⟩ := rfl
@[simp] theorem W_clr (d t : Tmp) (tm : List Cell) (v : AVal) (own : Bool) (nx : Nat) (hp : Heap) : W (some d) tm (some ⟨v, own, some t, nx, hp⟩) = some ⟨(unflag tm t).set d (v, own), nx, hp⟩ := rfl
@[simp] theorem W_no (tm : List Cell) (v : AVal) (own : Bool) (nx : Nat) (hp : Heap) : W none tm (some ⟨v, own, none, nx, hp⟩) = some ⟨tm, nx, hp⟩ := rfl
@[simp] theorem W_noclr (t : Tmp) (tm : List Cell) (v : AVal) (own : Bool) (nx : Nat) (hp : Heap) : W none tm (some ⟨v, own, some t, nx, hp⟩) = some ⟨unflag tm t, nx, hp⟩ := rfl
@[simp] theorem W_bad (tm : List Cell) : W d tm none = none := rfl
/-- A value, if there is one. -/
def V (nx : Nat) (hp : Heap) : Option AVal → Option Out
  | some v => some ⟨v, false, none, nx, hp⟩
  | none => none
@[simp] theorem V_some (nx : Nat) (hp : Heap) (v : AVal) : V nx hp (some v) = some ⟨v, false, none, nx, hp⟩ := rfl
@[simp] theorem V_none (nx : Nat) (hp : Heap) : V nx hp none = none := rfl
theorem V_map (nx : Nat) (hp : Heap) (x : Option AVal) : x.map (Out.val nx hp) = V nx hp x := by cases x <;> rfl
theorem astep_O (op : Op) (s : St) : astep K.P (R K) ops ro (O d op none) s = W d s.tm (aeff K.P (R K) ops ro (O d op none) (ev s.tm) s.nx s.hp) := by
  unfold astep awanted
  rw [show (O d op none).guard = none from rfl]
  simp only
  cases aeff K.P (R K) ops ro (O d op none) (ev s.tm) s.nx s.hp <;> rfl
@[simp] theorem gate_bool (b f w : Bool) : gate (some (.bool b, f)) w = some (b == w) := rfl
@[simp] theorem gate_tup (vs : List AVal) (f w : Bool) : gate (some (.tup vs, f)) w = some false := rfl
theorem gate_getC (tm : List Cell) (t : Nat) (w : Bool) : gate tm[t]? w = gate (some (getC tm t)) w := by
  unfold getC
  cases tm[t]? <;> rfl
def gate2 (o : Option Oper) (tm : List Cell) (w : Bool) : Option Bool := match o.bind (·.dst) with
  | some t => gate tm[t]? w
  | none => some false
@[simp] theorem gate2_some (t : Tmp) (op' : Op) (g' : Option (Nat × Bool)) (tm : List Cell) (w : Bool) : gate2 (some (O (some t) op' g')) tm w = gate (some (getC tm t)) w := gate_getC tm t w
def Gt (a b : Option St) : Option Bool → Option St
  | some q => if q then a else b
  | none => none
@[simp] theorem Gt_some (a b : Option St) (q : Bool) : Gt a b (some q) = if q then a else b := rfl
theorem astep_G (op : Op) (j : Nat) (w : Bool) (s : St) : astep K.P (R K) ops ro (O d op (some (j, w))) s = Gt (W d s.tm (aeff K.P (R K) ops ro (O d op none) (ev s.tm) s.nx s.hp)) (W d s.tm (some ⟨.tup [], false, none, s.nx, s.hp⟩)) (gate2 ops[j]? s.tm w) := by
  have : awanted ops s.tm (O d op (some (j, w))) = gate2 ops[j]? s.tm w := rfl
  unfold astep
  rw [this]
  have e : aeff K.P (R K) ops ro (O d op (some (j, w))) (ev s.tm) s.nx s.hp = aeff K.P (R K) ops ro (O d op none) (ev s.tm) s.nx s.hp := by cases op <;> rfl
  rw [e]
  cases gate2 ops[j]? s.tm w with
  | none => rfl
  | some q =>
    cases q with
    | false => rfl
    | true => simp only [Gt_some, if_true]; cases aeff K.P (R K) ops ro (O d op none) (ev s.tm) s.nx s.hp <;> rfl
@[simp] theorem OS_free (op : Op) (r : List Oper) (tm : List Cell) (nx : Nat) (hp : Heap) : OS K ops ro (O d op none :: r) (some ⟨tm, nx, hp⟩) = OS K ops ro r (W d tm (aeff K.P (R K) ops ro (O d op none) (ev tm) nx hp)) := by rw [OS_cons, astep_O]
@[simp] theorem OS_guard (op : Op) (j : Nat) (w : Bool) (r : List Oper) (tm : List Cell) (nx : Nat) (hp : Heap) :
    OS K ops ro (O d op (some (j, w)) :: r) (some ⟨tm, nx, hp⟩) = OS K ops ro r (Gt (W d tm (aeff K.P (R K) ops ro (O d op none) (ev tm) nx hp)) (W d tm (some ⟨.tup [], false, none, nx, hp⟩)) (gate2 ops[j]? tm w)) := by
  rw [OS_cons, astep_G K ro ops d op j w]
end
attribute [simp] OS_nil OS_none Y_seq Y_region Y_dregion Y_block X_skip X_exit X_ret XK_normal XK_ret XK_exit XK_none XN_some XN_none XBk_normal XBk_ret XBk_exit XR_normal XR_ret
section
variable (P : Program) (call : CallF) (ops : Array Oper) (ro : Md) (d : Option Tmp) (ρ : Rho) (nx : Nat) (hp : Heap)
@[simp] theorem amove_f (take : Bool) (t : Tmp) (v : AVal) : amove take (.tmp t) (v, false) nx hp = some ⟨v, false, none, nx, hp⟩ := rfl
@[simp] theorem amove_t (take : Bool) (t : Tmp) (v : AVal) : amove take (.tmp t) (v, true) nx hp = if take then some ⟨v, true, some t, nx, hp⟩ else some ⟨v, false, none, nx, hp⟩ := rfl
@[simp] theorem amove_c (take : Bool) (u : Value) (v : AVal) (b : Bool) : amove take (.const u) (v, b) nx hp = some ⟨v, b, none, nx, hp⟩ := rfl
@[simp] theorem amove_fn (take : Bool) (f : FuncId) (v : AVal) (b : Bool) : amove take (.func f) (v, b) nx hp = some ⟨v, false, none, nx, hp⟩ := rfl
@[simp] theorem cuts_nil (ops : Array Oper) (d : Option Tmp) : cuts [] ops d = false := by
  cases d with
  | none => rfl
  | some t =>
    show (ops.any fun o => match o.op with
      | .slice ty (.tmp u) _ _ _ => u == t && ([] : List TypeId).contains ty
      | _ => false) = false
    rw [← Array.any_toList, List.any_eq_false]
    intro o _
    split <;> simp
@[simp] theorem acut_sl (id off len sz : Nat) (ag b : Bool) : acut (.sl id off len sz ag, b) nx hp = some ⟨.sl id off len sz ag, false, none, nx, hp⟩ := by simp [acut, AVal.nilL]
@[simp] theorem acut_nil : acut (.lst [], true) nx hp = some ⟨.lst [], true, none, nx, hp⟩ := rfl
@[simp] theorem acut_f (v : AVal) : acut (v, false) nx hp = some ⟨v, false, none, nx, hp⟩ := rfl
@[simp] theorem D_move (x : Operand) : aeff P call ops ro (O d (.move x) none) ρ nx hp = if cuts ro.mu ops d then acut (ρ x) nx hp else amove (feeds ops d) x (ρ x) nx hp := rfl
@[simp] theorem D_assign (t : Tmp) : aeff P call ops ro (O d (.assign (.tmp t)) none) ρ nx hp = amove (makes ops t) (.tmp t) (ρ (.tmp t)) nx hp := rfl
@[simp] theorem D_assignC (v : Value) : aeff P call ops ro (O d (.assign (.const v)) none) ρ nx hp = amove false (.const v) (ρ (.const v)) nx hp := rfl
@[simp] theorem D_assignF (f : FuncId) : aeff P call ops ro (O d (.assign (.func f)) none) ρ nx hp = amove false (.func f) (ρ (.func f)) nx hp := rfl
def Pk (a b : AVal) (nx : Nat) (hp : Heap) : AVal → Option Out
  | .bool q => some ⟨if q then a else b, false, none, nx, hp⟩
  | _ => none
@[simp] theorem Pk_bool (a b : AVal) (q : Bool) : Pk a b nx hp (.bool q) = some ⟨if q then a else b, false, none, nx, hp⟩ := rfl
@[simp] theorem D_pick (c a b : Operand) : aeff P call ops ro (O d (.pick c a b) none) ρ nx hp = Pk (ρ a).1 (ρ b).1 nx hp (ρ c).1 := by
  show aeff0 P ops ro (O d (.pick c a b) none) ρ nx hp = _
  unfold aeff0
  simp only [O]
  cases (ρ c).1 <;> rfl
/-- A variable's first cells. -/
def zcells (P : Program) (t : TypeId) : Option (List Cell) := match (P.info? t).bind (·.zero) with
  | some z => if (z.cells.toList.map ofCell).all AVal.one then some (z.cells.toList.map fun c => (ofCell c, isNil c)) else none
  | none => none
def Al (nx : Nat) (hp : Heap) : Option (List Cell) → Option Out
  | some cs => some ⟨.ptr nx 0, false, none, nx + 1, (nx, .cells cs) :: hp⟩
  | none => none
@[simp] theorem Al_some (cs : List Cell) : Al nx hp (some cs) = some ⟨.ptr nx 0, false, none, nx + 1, (nx, .cells cs) :: hp⟩ := rfl
@[simp] theorem D_alloc (t : TypeId) : aeff P call ops ro (O d (.alloc t) none) ρ nx hp = Al nx hp (zcells P t) := by
  show aeff0 P ops ro (O d (.alloc t) none) ρ nx hp = _
  unfold aeff0 zcells
  simp only [O]
  cases (P.info? t).bind (·.zero) with
  | none => rfl
  | some z => simp only; split <;> rfl
@[simp] theorem D_box (t : TypeId) (x : Operand) : aeff P call ops ro (O d (.box t x) none) ρ nx hp = if (ρ x).1.flat.all AVal.one then some ⟨.ptr nx 0, false, none, nx + 1, (nx, .cells ((ρ x).1.flat.map fun v => (v, false))) :: hp⟩ else none := rfl
@[simp] theorem D_build (t : TypeId) (ps : Array (Nat × Operand)) : aeff P call ops ro (O d (.build t ps) none) ρ nx hp = V nx hp (abuild P (stored ops d) t (ps.toList.map fun p => (p.1, (ρ p.2).1))) := by rw [← V_map]; rfl
@[simp] theorem D_load (t : TypeId) (a : Operand) : aeff P call ops ro (O d (.load t a) none) ρ nx hp = aload P ops ro d t (ρ a).1 nx hp := rfl
@[simp] theorem D_store (t : TypeId) (a x : Operand) : aeff P call ops ro (O d (.store t a x) none) ρ nx hp = astore P ops ro t (ρ a).1 x (ρ x) nx hp := rfl
@[simp] theorem D_binOp (op : BinOp) (t u : TypeId) (x y : Operand) : aeff P call ops ro (O d (.binOp op t x y u) none) ρ nx hp = V nx hp (abinZ P t op y (ρ x).1 (ρ y).1) := by rw [← V_map]; rfl
@[simp] theorem abinZ_tmp (t : TypeId) (op : BinOp) (u : Tmp) (a b : AVal) : abinZ P t op (.tmp u) a b = abinT P t op a b := rfl
@[simp] theorem abinZ_int (t : TypeId) (op : BinOp) (k : IntKind) (n : Int) (a b : AVal) : abinZ P t op (.const (.int k n)) a b = abinT P t op a b := rfl
@[simp] theorem abinZ_bool (t : TypeId) (op : BinOp) (c : Bool) (a b : AVal) : abinZ P t op (.const (.bool c)) a b = abinT P t op a b := rfl
@[simp] theorem abinZ_str (t : TypeId) (op : BinOp) (s : ByteArray) (a b : AVal) : abinZ P t op (.const (.string s)) a b = abinT P t op a b := rfl
@[simp] theorem abinZ_agg (t : TypeId) (op : BinOp) (s : Array Value) (a b : AVal) : abinZ P t op (.const (.agg s)) a b = abinT P t op a b := rfl
@[simp] theorem abinZ_nil (t e : TypeId) (op : BinOp) (a b : AVal) (hu : P.underlying t = some (.slice e)) : abinZ P t op (.const (.slice none 0 0)) a b = if nonNil a = true then (match op with | .eql => some (.bool false) | .neq => some (.bool true) | _ => none) else none := by
  show nilCmp P t op a = _
  unfold nilCmp
  split
  · rw [hu]; cases op <;> rfl
  · rfl
@[simp] theorem nonNil_cons (x : AVal) (r : List AVal) : nonNil (.lst (x :: r)) = true := rfl
@[simp] theorem nonNil_sl (id off len sz : Nat) (ag : Bool) : nonNil (.sl id off len sz ag) = true := rfl
@[simp] theorem abinT_int (t : TypeId) (op : BinOp) (k k' : IntKind) (a b : Int) : abinT P t op (.int k a) (.int k' b) = abin op (.int k a) (.int k' b) := rfl
@[simp] theorem abinT_str (t : TypeId) (op : BinOp) (a b : ByteArray) : abinT P t op (.str a) (.str b) = abin op (.str a) (.str b) := rfl
@[simp] theorem abinT_beq (t : TypeId) (a b : Bool) (h : P.underlying t = some .bool) : abinT P t .eql (.bool a) (.bool b) = some (.bool (a == b)) := by simp [abinT, aeq, aeq1, h]
@[simp] theorem abinT_bne (t : TypeId) (a b : Bool) (h : P.underlying t = some .bool) : abinT P t .neq (.bool a) (.bool b) = some (.bool !(a == b)) := by simp [abinT, aeq, aeq1, h]
@[simp] theorem abinT_aeq (t : TypeId) (xs ys : List AVal) : abinT P t .eql (.agg xs) (.agg ys) = (aeq P t (.agg xs) (.agg ys)).map .bool := rfl
@[simp] theorem abinT_ane (t : TypeId) (xs ys : List AVal) : abinT P t .neq (.agg xs) (.agg ys) = (aeq P t (.agg xs) (.agg ys)).map fun b => .bool !b := rfl
@[simp] theorem D_unOp (op : UnOp) (t : TypeId) (x : Operand) : aeff P call ops ro (O d (.unOp op t x) none) ρ nx hp = V nx hp (aun op (ρ x).1) := by rw [← V_map]; rfl
@[simp] theorem D_makeFunc (f : FuncId) (a b : Array Operand) : aeff P call ops ro (O d (.makeFunc (.func f) a b) none) ρ nx hp = some ⟨.clo f (a.toList.map fun x => (ρ x).1) (b.toList.map fun x => (ρ x).1), false, none, nx, hp⟩ := rfl
def Vs (nl : Bool) (nx : Nat) (hp : Heap) (v : Option AVal) : Option Out := v.map fun r => ⟨r, nl, none, nx, hp⟩
@[simp] theorem Vs_false (v : Option AVal) : Vs false nx hp v = V nx hp v := by rw [← V_map]; rfl
@[simp] theorem Vs_true (r : AVal) : Vs true nx hp (some r) = some ⟨r, true, none, nx, hp⟩ := rfl
theorem nilC_none (t : TypeId) (c : Cell) : nilC [] t c = false := rfl
theorem nilC_not (mu : List TypeId) (t : TypeId) (v : AVal) : nilC mu t (v, false) = false := by simp [nilC]
theorem nilC_sl (mu : List TypeId) (t : TypeId) (id off len sz : Nat) (ag b : Bool) : nilC mu t (.sl id off len sz ag, b) = false := by simp [nilC, AVal.nilL]
theorem nilC_str (mu : List TypeId) (t : TypeId) (s : ByteArray) (b : Bool) : nilC mu t (.str s, b) = false := by simp [nilC, AVal.nilL]
theorem nilC_nil (mu : List TypeId) (t : TypeId) (h : mu.contains t = true) : nilC mu t (.lst [], true) = true := by simp only [nilC, h]; rfl
attribute [simp] nilC_none nilC_not nilC_sl nilC_str nilC_nil
@[simp] theorem D_slice (t : TypeId) (x : Operand) (lo hi : Option Operand) : aeff P call ops ro (O d (.slice t x lo hi none) none) ρ nx hp = Vs (nilC ro.mu t (ρ x)) nx hp (aslice P t (ρ x).1 (lo.map fun x => (ρ x).1) (hi.map fun x => (ρ x).1) none) := by
  show (aslice P t (ρ x).1 (lo.map fun x => (ρ x).1) (hi.map fun x => (ρ x).1) none).map (clipped (nilC ro.mu t (ρ x)) (hi.map fun x => (ρ x).1) none nx hp) = _
  have e : clipped (nilC ro.mu t (ρ x)) (hi.map fun x => (ρ x).1) none nx hp = fun r => ⟨r, nilC ro.mu t (ρ x), none, nx, hp⟩ := by
    funext r
    simp only [clipped]
    rw [show clipOwn (hi.map fun x => (ρ x).1) none r = false by cases hi <;> rfl, Bool.false_or]
  rw [e]; rfl
/-- A slice of three indices. -/
def Vc (nl : Bool) (hi m : AVal) (nx : Nat) (hp : Heap) : Option AVal → Option Out
  | some r => some (clipped nl (some hi) (some m) nx hp r)
  | none => none
@[simp] theorem Vc_lst (nl : Bool) (k k' : IntKind) (h m : Int) (xs : List AVal) : Vc nl (.int k h) (.int k' m) nx hp (some (.lst xs)) = some ⟨.lst xs, h == m || nl, none, nx, hp⟩ := rfl
@[simp] theorem Vc_sl (h m : AVal) (id off len sz : Nat) (ag : Bool) : Vc false h m nx hp (some (.sl id off len sz ag)) = some ⟨.sl id off len sz ag, false, none, nx, hp⟩ := by
  simp only [Vc, clipped, clipOwn, Bool.or_false]
@[simp] theorem D_slice3 (t : TypeId) (x h m : Operand) (lo : Option Operand) : aeff P call ops ro (O d (.slice t x lo (some h) (some m)) none) ρ nx hp = Vc (nilC ro.mu t (ρ x)) (ρ h).1 (ρ m).1 nx hp (aslice P t (ρ x).1 (lo.map fun x => (ρ x).1) (some (ρ h).1) (some (ρ m).1)) := by
  show (aslice P t (ρ x).1 (lo.map fun x => (ρ x).1) (some (ρ h).1) (some (ρ m).1)).map (clipped (nilC ro.mu t (ρ x)) (some (ρ h).1) (some (ρ m).1) nx hp) = _
  cases aslice P t (ρ x).1 (lo.map fun x => (ρ x).1) (some (ρ h).1) (some (ρ m).1) <;> rfl
@[simp] theorem D_fieldAddr (t : TypeId) (x : Operand) (f : Nat) : aeff P call ops ro (O d (.fieldAddr t x f) none) ρ nx hp = V nx hp (afield P t (ρ x).1 f) := by rw [← V_map]; rfl
@[simp] theorem D_field (t : TypeId) (x : Operand) (f : Nat) : aeff P call ops ro (O d (.field t x f) none) ρ nx hp = V nx hp (afieldv P t (ρ x).1 f) := by rw [← V_map]; rfl
@[simp] theorem D_indexAddr (t : TypeId) (x i : Operand) : aeff P call ops ro (O d (.indexAddr t x i) none) ρ nx hp = V nx hp (aindexa P t (ρ x).1 (ρ i).1) := by rw [← V_map]; rfl
@[simp] theorem D_index (t : TypeId) (x i : Operand) : aeff P call ops ro (O d (.index t x i) none) ρ nx hp = V nx hp (aindex P t (ρ x).1 (ρ i).1) := by rw [← V_map]; rfl
def Xt (i : Nat) (nx : Nat) (hp : Heap) : AVal → Option Out
  | .tup vs => V nx hp vs[i]?
  | _ => none
@[simp] theorem Xt_tup (i : Nat) (vs : List AVal) : Xt i nx hp (.tup vs) = V nx hp vs[i]? := rfl
def Mm (nx : Nat) (hp : Heap) : Option TypeDesc → Option Out
  | some (.map _ _) => some ⟨.map nx, false, none, nx + 1, (nx, .map []) :: hp⟩
  | _ => none
@[simp] theorem Mm_map (k e : TypeId) : Mm nx hp (some (.map k e)) = some ⟨.map nx, false, none, nx + 1, (nx, .map []) :: hp⟩ := rfl
@[simp] theorem D_makeMap (t : TypeId) : aeff P call ops ro (O d (.makeMap t none) none) ρ nx hp = Mm nx hp (P.underlying t) := by
  show aeff0 P ops ro (O d (.makeMap t none) none) ρ nx hp = _
  unfold aeff0
  simp only [O]
  cases P.underlying t with
  | none => rfl
  | some u => cases u <;> rfl
def Ms (nx : Nat) : Option Heap → Option Out
  | some h => some ⟨.tup [], false, none, nx, h⟩
  | none => none
@[simp] theorem Ms_some (h : Heap) : Ms nx (some h) = some ⟨.tup [], false, none, nx, h⟩ := rfl
@[simp] theorem D_lookup (t : TypeId) (m k : Operand) (ok : Bool) : aeff P call ops ro (O d (.lookup t m k ok) none) ρ nx hp = V nx hp (alookup P t (ρ m).1 (ρ k).1 ok hp) := by rw [← V_map]; rfl
@[simp] theorem D_mapUpdate (t : TypeId) (m k v : Operand) : aeff P call ops ro (O d (.mapUpdate t m k v) none) ρ nx hp = Ms nx (amapset P ro.lo t (ρ m).1 (ρ k).1 (ρ v).1 hp) := by
  show Option.map _ (amapset P ro.lo t (ρ m).1 (ρ k).1 (ρ v).1 hp) = _
  cases amapset P ro.lo t (ρ m).1 (ρ k).1 (ρ v).1 hp <;> rfl
@[simp] theorem D_insert (t : TypeId) (m k v : Operand) : aeff P call ops ro (O d (.insert t m k v) none) ρ nx hp = Ms nx (amapset P ro.lo t (ρ m).1 (ρ k).1 (ρ v).1 hp) := by
  show Option.map _ (amapset P ro.lo t (ρ m).1 (ρ k).1 (ρ v).1 hp) = _
  cases amapset P ro.lo t (ρ m).1 (ρ k).1 (ρ v).1 hp <;> rfl
@[simp] theorem D_extract (x : Operand) (i : Nat) : aeff P call ops ro (O d (.extract x i) none) ρ nx hp = Xt i nx hp (ρ x).1 := by
  show aeff0 P ops ro (O d (.extract x i) none) ρ nx hp = _
  unfold aeff0
  simp only [O]
  cases (ρ x).1 <;> first | rfl | exact V_map nx hp _
def Nc (nx : Nat) (hp : Heap) : AVal → Option Out
  | .ptr i k => some ⟨.ptr i k, false, none, nx, hp⟩
  | .pel e k => some ⟨.pel e k, false, none, nx, hp⟩
  | .clo f a b => some ⟨.clo f a b, false, none, nx, hp⟩
  | _ => none
@[simp] theorem Nc_ptr (i k : Nat) : Nc nx hp (.ptr i k) = some ⟨.ptr i k, false, none, nx, hp⟩ := rfl
@[simp] theorem Nc_pel (e : AVal) (k : Nat) : Nc nx hp (.pel e k) = some ⟨.pel e k, false, none, nx, hp⟩ := rfl
@[simp] theorem Nc_clo (f : FuncId) (a b : List AVal) : Nc nx hp (.clo f a b) = some ⟨.clo f a b, false, none, nx, hp⟩ := rfl
@[simp] theorem D_nilCheck (x : Operand) : aeff P call ops ro (O d (.nilCheck x) none) ρ nx hp = Nc nx hp (ρ x).1 := by
  show aeff0 P ops ro (O d (.nilCheck x) none) ρ nx hp = _
  unfold aeff0
  simp only [O]
  cases (ρ x).1 <;> rfl
/-- A call's answer. -/
def Cr : Option Res → Option Out
  | some r => some ⟨r.v, r.own, none, r.nx, r.hp⟩
  | none => none
@[simp] theorem Cr_some (v : AVal) (own : Bool) : Cr (some ⟨v, own, nx, hp⟩) = some ⟨v, own, none, nx, hp⟩ := rfl
def Cl (call : CallF) (args : List AVal) (lo nx : Nat) (hp : Heap) : AVal → Option Out
  | .clo g fs cs => Cr (call g (fs ++ args ++ cs) lo nx hp)
  | _ => none
@[simp] theorem Cl_clo (args : List AVal) (g : FuncId) (fs cs : List AVal) (lo : Nat) : Cl call args lo nx hp (.clo g fs cs) = Cr (call g (fs ++ args ++ cs) lo nx hp) := rfl
@[simp] theorem argOf_none (x : Operand) (v : AVal) : argOf [] x v = v := rfl
@[simp] theorem argOf_tmp (mu : List TypeId) (t : Tmp) (v : AVal) : argOf mu (.tmp t) v = v := by cases mu <;> rfl
@[simp] theorem argOf_func (mu : List TypeId) (f : FuncId) (v : AVal) : argOf mu (.func f) v = v := by cases mu <;> rfl
@[simp] theorem argOf_int (mu : List TypeId) (k : IntKind) (n : Int) (v : AVal) : argOf mu (.const (.int k n)) v = v := by cases mu <;> rfl
@[simp] theorem argOf_bool (mu : List TypeId) (b : Bool) (v : AVal) : argOf mu (.const (.bool b)) v = v := by cases mu <;> rfl
@[simp] theorem argOf_str (mu : List TypeId) (s : ByteArray) (v : AVal) : argOf mu (.const (.string s)) v = v := by cases mu <;> rfl
@[simp] theorem argOf_map (mu : List TypeId) (a : Option Nat) (v : AVal) : argOf mu (.const (.map a)) v = v := by cases mu <;> rfl
@[simp] theorem argOf_ptr (mu : List TypeId) (a : Option Addr) (v : AVal) : argOf mu (.const (.pointer a)) v = v := by cases mu <;> rfl
@[simp] theorem argOf_agg (mu : List TypeId) (a : Array Value) (v : AVal) : argOf mu (.const (.agg a)) v = v := by cases mu <;> rfl
@[simp] theorem argOf_nil (t : TypeId) (mu : List TypeId) (v : AVal) : argOf (t :: mu) (.const (.slice none 0 0)) v = .nils := rfl
@[simp] theorem D_call (f : Operand) (args : Array Operand) (ts : Array TypeId) : aeff P call ops ro (O d (.call { callee := .value f, args := args, argTypes := ts }) none) ρ nx hp = Cl call (args.toList.map fun x => argOf ro.mu x (ρ x).1) ro.lo nx hp (ρ f).1 := by
  show acall P call ro { callee := .value f, args := args, argTypes := ts } ρ nx hp = _
  unfold acall
  simp only
  cases (ρ f).1 <;> rfl
@[simp] theorem D_len (x : Operand) (t : TypeId) : aeff P call ops ro (O d (.call { callee := .builtin .len, args := #[x], argTypes := #[t] }) none) ρ nx hp = V nx hp (alen P t (ρ x).1) := by rw [← V_map]; rfl
@[simp] theorem D_min (x y : Operand) (ts : Array TypeId) : aeff P call ops ro (O d (.call { callee := .builtin .min, args := #[x, y], argTypes := ts }) none) ρ nx hp = V nx hp (amin (ρ x).1 (ρ y).1) := by
  rw [← V_map]
  show (List.foldlM (fun a y => amin a (ρ y).1) (ρ x).1 [y]).map _ = _
  simp [List.foldlM]
@[simp] theorem D_max (x y : Operand) (ts : Array TypeId) : aeff P call ops ro (O d (.call { callee := .builtin .max, args := #[x, y], argTypes := ts }) none) ρ nx hp = V nx hp (amax (ρ x).1 (ρ y).1) := by
  rw [← V_map]
  show (List.foldlM (fun a y => amax a (ρ y).1) (ρ x).1 [y]).map _ = _
  simp [List.foldlM]
def Ap (P : Program) (t : TypeId) (t2 : TypeId) (y : AVal) (clr : Option Tmp) (nx : Nat) (hp : Heap) : Cell → Option Out
  | (.lst xs, true) => aappendO P [t, t2] xs y clr nx hp
  | _ => none
@[simp] theorem Ap_lst (t t2 : TypeId) (y : AVal) (clr : Option Tmp) (xs : List AVal) : Ap P t t2 y clr nx hp (.lst xs, true) = aappendO P [t, t2] xs y clr nx hp := rfl
def ApC (P : Program) (t : TypeId) (t2 : TypeId) (y : AVal) (nx : Nat) (hp : Heap) : Cell → Option Out
  | (.lst [], true) => aappendO P [t, t2] [] y none nx hp
  | _ => none
@[simp] theorem ApC_nil (t t2 : TypeId) (y : AVal) : ApC P t t2 y nx hp (.lst [], true) = aappendO P [t, t2] [] y none nx hp := rfl
@[simp] theorem D_append (u : Tmp) (y : Operand) (t t2 : TypeId) : aeff P call ops ro (O d (.call { callee := .builtin .append, args := #[.tmp u, y], argTypes := #[t, t2] }) none) ρ nx hp = if ro.mu.contains t then aappendM P ro.lo [t, t2] (.tmp u) (ρ (.tmp u)) (ρ y).1 nx hp else Ap P t t2 (ρ y).1 (some u) nx hp (ρ (.tmp u)) := by
  show abuiltin P ro .append #[t, t2] #[.tmp u, y] ρ nx hp = _
  unfold abuiltin
  simp only
  by_cases hm : ro.mu.contains t = true
  · rw [if_pos (show appendsAt ro.mu #[t, t2].toList = true from hm), if_pos hm]
  · rw [if_neg (show ¬ appendsAt ro.mu #[t, t2].toList = true from hm), if_neg hm]
    generalize ρ (.tmp u) = c
    obtain ⟨v, f⟩ := c
    cases v <;> cases f <;> rfl
@[simp] theorem D_appendC (u : Value) (y : Operand) (t t2 : TypeId) : aeff P call ops ro (O d (.call { callee := .builtin .append, args := #[.const u, y], argTypes := #[t, t2] }) none) ρ nx hp = if ro.mu.contains t then aappendM P ro.lo [t, t2] (.const u) (ρ (.const u)) (ρ y).1 nx hp else ApC P t t2 (ρ y).1 nx hp (ρ (.const u)) := by
  show abuiltin P ro .append #[t, t2] #[.const u, y] ρ nx hp = _
  unfold abuiltin
  simp only
  by_cases hm : ro.mu.contains t = true
  · rw [if_pos (show appendsAt ro.mu #[t, t2].toList = true from hm), if_pos hm]
  · rw [if_neg (show ¬ appendsAt ro.mu #[t, t2].toList = true from hm), if_neg hm]
    generalize ρ (.const u) = c
    obtain ⟨v, f⟩ := c
    cases v <;> cases f <;> first | rfl | (rename_i xs; cases xs <;> rfl)
@[simp] theorem seqParts_nil (i : Nat) : seqParts [] i = true := by have h : True := trivial; simp only [seqParts]
@[simp] theorem seqParts_cons (k i : Nat) (v : AVal) (r : List (Nat × AVal)) : seqParts ((k, v) :: r) i = (k == i && seqParts r (i + 1)) := by have h : True := trivial; simp only [seqParts]
def Bs (P : Program) (mu : List TypeId) (t : TypeId) (len : Nat) (xs : List (Nat × AVal)) (nx : Nat) (hp : Heap) : Option TypeDesc → Option Out
  | some (.slice e) =>
      if seqParts xs 0 ∧ xs.length = len ∧ len * sizeT P e ≤ 2 ^ 24 ∧ xs.all (fun p => p.2.flat.length == sizeT P e && p.2.flat.all AVal.one) ∧ 0 < sizeT P e ∧ zeroT P e = true then (if mu.contains t then some ⟨.sl nx 0 len (sizeT P e) ((isAggT P e).getD false), false, none, nx + 1, (nx, .cells (unown (flats (xs.map (·.2))))) :: hp⟩ else some ⟨.lst (xs.map (·.2)), true, none, nx, hp⟩) else none
  | _ => none
@[simp] theorem Bs_slice (mu : List TypeId) (t e : TypeId) (len : Nat) (xs : List (Nat × AVal)) : Bs P mu t len xs nx hp (some (.slice e)) =
      if seqParts xs 0 ∧ xs.length = len ∧ len * sizeT P e ≤ 2 ^ 24 ∧ xs.all (fun p => p.2.flat.length == sizeT P e && p.2.flat.all AVal.one) ∧ 0 < sizeT P e ∧ zeroT P e = true then (if mu.contains t then some ⟨.sl nx 0 len (sizeT P e) ((isAggT P e).getD false), false, none, nx + 1, (nx, .cells (unown (flats (xs.map (·.2))))) :: hp⟩ else some ⟨.lst (xs.map (·.2)), true, none, nx, hp⟩) else none := rfl
@[simp] theorem D_buildSlice (t : TypeId) (len : Nat) (ps : Array (Nat × Operand)) : aeff P call ops ro (O d (.buildSlice t len ps) none) ρ nx hp = Bs P ro.mu t len (ps.toList.map fun p => (p.1, (ρ p.2).1)) nx hp (P.underlying t) := by
  show aeff0 P ops ro (O d (.buildSlice t len ps) none) ρ nx hp = _
  unfold aeff0
  simp only [O]
  cases P.underlying t with
  | none => rfl
  | some u => cases u <;> rfl
@[simp] theorem ev_tmp (tm : List Cell) (t : Tmp) : ev tm (.tmp t) = getC tm t := rfl
@[simp] theorem ev_const (tm : List Cell) (v : Value) : ev tm (.const v) = (ofVal v, isNil v) := rfl
@[simp] theorem ev_func (tm : List Cell) (f : FuncId) : ev tm (.func f) = (.clo f [] [], false) := rfl
end
attribute [simp] ofVal ofCell isNil abin aint astr aun evv
@[simp] theorem one_int (k : IntKind) (n : Int) : AVal.one (.int k n) = true := rfl
@[simp] theorem flat_int (k : IntKind) (n : Int) : AVal.flat (.int k n) = [.int k n] := rfl
@[simp] theorem one_bool (b : Bool) : AVal.one (.bool b) = true := rfl
@[simp] theorem flat_bool (b : Bool) : AVal.flat (.bool b) = [.bool b] := rfl
@[simp] theorem one_str (s : ByteArray) : AVal.one (.str s) = true := rfl
@[simp] theorem flat_str (s : ByteArray) : AVal.flat (.str s) = [.str s] := rfl
@[simp] theorem one_agg (cs : List AVal) : AVal.one (.agg cs) = false := rfl
@[simp] theorem flat_agg (cs : List AVal) : AVal.flat (.agg cs) = cs := rfl
@[simp] theorem one_lst (xs : List AVal) : AVal.one (.lst xs) = true := rfl
@[simp] theorem flat_lst (xs : List AVal) : AVal.flat (.lst xs) = [.lst xs] := rfl
@[simp] theorem one_tup (vs : List AVal) : AVal.one (.tup vs) = false := rfl
@[simp] theorem flat_tup (vs : List AVal) : AVal.flat (.tup vs) = [.tup vs] := rfl
@[simp] theorem one_ptr (i o : Nat) : AVal.one (.ptr i o) = true := rfl
@[simp] theorem flat_ptr (i o : Nat) : AVal.flat (.ptr i o) = [.ptr i o] := rfl
@[simp] theorem one_pel (e : AVal) (o : Nat) : AVal.one (.pel e o) = true := rfl
@[simp] theorem flat_pel (e : AVal) (o : Nat) : AVal.flat (.pel e o) = [.pel e o] := rfl
@[simp] theorem one_map (i : Nat) : AVal.one (.map i) = true := rfl
@[simp] theorem flat_map (i : Nat) : AVal.flat (.map i) = [.map i] := rfl
@[simp] theorem one_sl (a b c d : Nat) (g : Bool) : AVal.one (.sl a b c d g) = true := rfl
@[simp] theorem flat_sl (a b c d : Nat) (g : Bool) : AVal.flat (.sl a b c d g) = [.sl a b c d g] := rfl
@[simp] theorem one_clo (f : FuncId) (l m : List AVal) : AVal.one (.clo f l m) = true := rfl
@[simp] theorem flat_clo (f : FuncId) (l m : List AVal) : AVal.flat (.clo f l m) = [.clo f l m] := rfl
@[simp] theorem one_nilp  : AVal.one (.nilp) = true := rfl
@[simp] theorem flat_nilp  : AVal.flat (.nilp) = [.nilp] := rfl
@[simp] theorem one_nilf  : AVal.one (.nilf) = true := rfl
@[simp] theorem flat_nilf  : AVal.flat (.nilf) = [.nilf] := rfl
@[simp] theorem one_nilm  : AVal.one (.nilm) = true := rfl
@[simp] theorem flat_nilm  : AVal.flat (.nilm) = [.nilm] := rfl
@[simp] theorem one_nils  : AVal.one (.nils) = true := rfl
@[simp] theorem flat_nils  : AVal.flat (.nils) = [.nils] := rfl
@[simp] theorem one_bad  : AVal.one (.bad) = false := rfl
@[simp] theorem flat_bad  : AVal.flat (.bad) = [.bad] := rfl
@[simp] theorem X_cond' (K : Cfg) (ro : Md) (c : Operand) (a b : Code) (s : St) : X K ro (.cond c a b) s = (match evv s.tm c with | .bool q => if q then X K ro a s else X K ro b s | _ => none) := X_cond K ro s c a b
def Rc : Option Out → Option Cell
  | some q => some (q.v, q.own)
  | none => none
@[simp] theorem Rc_some (v : AVal) (own : Bool) (clr : Option Tmp) (nx : Nat) (hp : Heap) : Rc (some ⟨v, own, clr, nx, hp⟩) = some (v, own) := rfl
@[simp] theorem Rc_none : Rc none = none := rfl
@[simp] theorem ares_tmp (P : Program) (t : Tmp) (s : St) (h : t < s.tm.length) : ares P s (.tmp t) = some (getC s.tm t) := getC_some h
@[simp] theorem ares_cell (P : Program) (a t : Nat) (s : St) (h : a < s.tm.length) : ares P s (.cell a t) = Rc (aload P #[] ⟨s.nx, []⟩ none t (getC s.tm a).1 s.nx s.hp) := by
  unfold ares
  simp only [getC_some h]
  cases aload P #[] ⟨s.nx, []⟩ none t (getC s.tm a).1 s.nx s.hp <;> rfl
@[simp] theorem aresults_one (P : Program) (r : ResultVar) (s : St) : aresults P [r] s = ares P s r := rfl
@[simp] theorem aresults_zero (P : Program) (s : St) : aresults P [] s = some (.tup [], false) := rfl
def Tp : Option (List AVal) → Option Cell
  | some vs => some (.tup vs, false)
  | none => none
@[simp] theorem Tp_some (vs : List AVal) : Tp (some vs) = some (.tup vs, false) := rfl
@[simp] theorem aresults_more (P : Program) (r r' : ResultVar) (l : List ResultVar) (s : St) : aresults P (r :: r' :: l) s = Tp (areslist P s (r :: r' :: l)) := by
  show (areslist P s (r :: r' :: l)).map _ = _
  cases areslist P s (r :: r' :: l) <;> rfl
def Lc (x : Option Cell) (y : Option (List AVal)) : Option (List AVal) := match x, y with
  | some (v, _), some vs => some (v :: vs)
  | _, _ => none
@[simp] theorem Lc_some (v : AVal) (b : Bool) (vs : List AVal) : Lc (some (v, b)) (some vs) = some (v :: vs) := rfl
@[simp] theorem Lc_getC (c : Cell) (vs : List AVal) : Lc (some c) (some vs) = some (c.1 :: vs) := rfl
@[simp] theorem areslist_nil (P : Program) (s : St) : areslist P s [] = some [] := rfl
@[simp] theorem areslist_cons (P : Program) (s : St) (r : ResultVar) (l : List ResultVar) : areslist P s (r :: l) = Lc (ares P s r) (areslist P s l) := rfl
@[simp] theorem idsLt_int (n : Nat) (k : IntKind) (i : Int) : AVal.idsLt n (.int k i) = true := by have h : True := trivial; simp only [AVal.idsLt]
@[simp] theorem idsLt_bool (n : Nat) (b : Bool) : AVal.idsLt n (.bool b) = true := by have h : True := trivial; simp only [AVal.idsLt]
@[simp] theorem idsLt_str (n : Nat) (s : ByteArray) : AVal.idsLt n (.str s) = true := by have h : True := trivial; simp only [AVal.idsLt]
@[simp] theorem idsLt_agg (n : Nat) (cs : List AVal) : AVal.idsLt n (.agg cs) = idsLts n cs := by have h : True := trivial; simp only [AVal.idsLt]
@[simp] theorem idsLt_lst (n : Nat) (cs : List AVal) : AVal.idsLt n (.lst cs) = idsLts n cs := by have h : True := trivial; simp only [AVal.idsLt]
@[simp] theorem idsLt_tup (n : Nat) (cs : List AVal) : AVal.idsLt n (.tup cs) = idsLts n cs := by have h : True := trivial; simp only [AVal.idsLt]
@[simp] theorem idsLt_ptr (n : Nat) (id off : Nat) : AVal.idsLt n (.ptr id off) = decide (id < n) := by have h : True := trivial; simp only [AVal.idsLt]
@[simp] theorem idsLt_sl (n : Nat) (id off len sz : Nat) (ag : Bool) : AVal.idsLt n (.sl id off len sz ag) = decide (id < n) := by have h : True := trivial; simp only [AVal.idsLt]
@[simp] theorem idsLt_pel (n : Nat) (e : AVal) (off : Nat) : AVal.idsLt n (.pel e off) = e.idsLt n := by have h : True := trivial; simp only [AVal.idsLt]
@[simp] theorem idsLt_map (n : Nat) (id : Nat) : AVal.idsLt n (.map id) = decide (id < n) := by have h : True := trivial; simp only [AVal.idsLt]
@[simp] theorem idsLt_clo (n : Nat) (f : FuncId) (fs cs : List AVal) : AVal.idsLt n (.clo f fs cs) = (idsLts n fs && idsLts n cs) := by have h : True := trivial; simp only [AVal.idsLt]
@[simp] theorem idsLt_nilp (n : Nat)  : AVal.idsLt n .nilp = true := by have h : True := trivial; simp only [AVal.idsLt]
@[simp] theorem idsLt_nilf (n : Nat)  : AVal.idsLt n .nilf = true := by have h : True := trivial; simp only [AVal.idsLt]
@[simp] theorem idsLt_nilm (n : Nat)  : AVal.idsLt n .nilm = true := by have h : True := trivial; simp only [AVal.idsLt]
@[simp] theorem idsLt_nils (n : Nat)  : AVal.idsLt n .nils = true := by have h : True := trivial; simp only [AVal.idsLt]
@[simp] theorem idsLt_bad (n : Nat)  : AVal.idsLt n .bad = true := by have h : True := trivial; simp only [AVal.idsLt]
@[simp] theorem idsLts_nil (n : Nat) : idsLts n [] = true := by have h : True := trivial; simp only [idsLts]
@[simp] theorem idsLts_cons (n : Nat) (v : AVal) (r : List AVal) : idsLts n (v :: r) = (v.idsLt n && idsLts n r) := by have h : True := trivial; simp only [idsLts]
theorem FZ_low {lo : Nat} {hp : Heap} {v : AVal} (h : v.idsLt lo = true) : FZ lo hp v = some v := FZ_iff.2 ⟨0, by simp only [fz]; rw [if_pos h]⟩
@[simp] theorem Sealed_none (nx : Nat) (hp : Heap) : Sealed nx hp none = none := rfl
@[simp] theorem Sealed_some' (nx : Nat) (hp : Heap) (v : AVal) (own : Bool) (n' : Nat) (h' : Heap) (h : v.idsLt nx = true) : Sealed nx hp (some ⟨v, own, n', h'⟩) = some ⟨v, own, nx, hp⟩ := by
  simp only [Sealed, FZ_low h, h, if_true, slOwn, Bool.and_true]
@[simp] theorem Tidied_none (nx : Nat) : Tidied nx none = none := rfl
@[simp] theorem Tidied_some' (nx : Nat) (v : AVal) (own : Bool) (n' : Nat) (h' : Heap) (h : v.idsLt nx = true) (hc : hclean nx h' = true) : Tidied nx (some ⟨v, own, n', h'⟩) = some ⟨v, own, nx, hlow nx h'⟩ := by
  simp only [Tidied, FZ_low h, h, hc, if_true, slOwn, Bool.and_true]
@[simp] theorem hlow_cons (n i : Nat) (b : ABlk) (h : Heap) : hlow n ((i, b) :: h) = if i < n then (i, b) :: hlow n h else hlow n h := by
  unfold hlow
  rw [List.filter_cons]
  simp
@[simp] theorem hlow_hset (n i : Nat) (b : ABlk) (h : Heap) : hlow n (hset h i b) = hset (hlow n h) i b := by
  induction h with
  | nil => rfl
  | cons p h ih =>
    obtain ⟨j, c⟩ := p
    simp only [hset, hlow_cons]
    split
    · rename_i e; subst e
      rw [hlow_cons]
      split
      · simp [hset]
      · rename_i hn
        rw [← ih]
        clear ih
        induction h with
        | nil => rfl
        | cons p h ih =>
          obtain ⟨j, c⟩ := p
          simp only [hset]
          split
          · rename_i e; subst e
            simp [hn]
          · simp only [hlow_cons]
            split
            · rw [ih]
            · exact ih
    · rename_i hne
      rw [hlow_cons]
      split
      · simp [hset, hne, ih]
      · exact ih
@[simp] theorem hclean_cons (n i : Nat) (b : ABlk) (h : Heap) : hclean n ((i, b) :: h) = ((!decide (i < n) || match b with | .cells cs => cs.all fun c => c.1.idsLt n | .map es => es.all fun p => p.1.idsLt n && p.2.idsLt n) && hclean n h) := rfl
theorem hclean_hset {n i : Nat} {cs : List Cell} {h : Heap} (hh : hclean n h = true) (hc : cs.all (fun c => c.1.idsLt n) = true) : hclean n (hset h i (.cells cs)) = true := by
  induction h with
  | nil => rfl
  | cons p h ih =>
    obtain ⟨j, c⟩ := p
    rw [hclean_cons, Bool.and_eq_true] at hh
    simp only [hset]
    split
    · rw [hclean_cons, Bool.and_eq_true]; exact ⟨by simp only [hc, Bool.or_true], hh.2⟩
    · rw [hclean_cons, Bool.and_eq_true]; exact ⟨hh.1, ih hh.2⟩
attribute [simp] alen
@[simp] theorem lift_some' (nx : Nat) (hp : Heap) (v : AVal) (own : Bool) (n' : Nat) (h' : Heap) : lift nx hp (some ⟨v, own, n', h'⟩) = some ⟨v, own, nx, hp⟩ := rfl
@[simp] theorem lift_none (nx : Nat) (hp : Heap) : lift nx hp none = none := rfl
section
variable (P : Program) (ops : Array Oper) (ro : Md) (d : Option Tmp) (t : TypeId) (nx : Nat) (hp : Heap)
@[simp] theorem nilL_nil : AVal.nilL (.lst []) = true := rfl
@[simp] theorem nilL_cons (x : AVal) (r : List AVal) : AVal.nilL (.lst (x :: r)) = false := rfl
def LdC (ops : Array Oper) (ro : Md) (d : Option Tmp) (t : TypeId) (id off : Nat) (cs : List Cell) (nx : Nat) (hp : Heap) : Option Cell → Option Out
  | some (v, true) => if feeds ops d then (if v.nilL then some ⟨v, true, none, nx, hp⟩ else if !ro.mu.contains t && ro.lo ≤ id then some ⟨v, true, none, nx, hset hp id (.cells (cs.set off (v, false)))⟩ else some ⟨v, false, none, nx, hp⟩) else some ⟨v, false, none, nx, hp⟩
  | some (v, false) => some ⟨v, false, none, nx, hp⟩
  | none => none
@[simp] theorem LdC_f (id off : Nat) (cs : List Cell) (v : AVal) : LdC ops ro d t id off cs nx hp (some (v, false)) = some ⟨v, false, none, nx, hp⟩ := rfl
@[simp] theorem LdC_t (id off : Nat) (cs : List Cell) (v : AVal) : LdC ops ro d t id off cs nx hp (some (v, true)) = if feeds ops d then (if v.nilL then some ⟨v, true, none, nx, hp⟩ else if !ro.mu.contains t && ro.lo ≤ id then some ⟨v, true, none, nx, hset hp id (.cells (cs.set off (v, false)))⟩ else some ⟨v, false, none, nx, hp⟩) else some ⟨v, false, none, nx, hp⟩ := rfl
def LdA (P : Program) (ops : Array Oper) (ro : Md) (d : Option Tmp) (t : TypeId) (id off : Nat) (cs : List Cell) (nx : Nat) (hp : Heap) : Option Bool → Option Out
  | some true => if off + sizeT P t ≤ cs.length then some ⟨.agg (((cs.drop off).take (sizeT P t)).map (·.1)), false, none, nx, hp⟩ else none
  | some false => LdC ops ro d t id off cs nx hp cs[off]?
  | none => none
@[simp] theorem LdA_t (id off : Nat) (cs : List Cell) : LdA P ops ro d t id off cs nx hp (some true) = if off + sizeT P t ≤ cs.length then some ⟨.agg (((cs.drop off).take (sizeT P t)).map (·.1)), false, none, nx, hp⟩ else none := rfl
@[simp] theorem LdA_f (id off : Nat) (cs : List Cell) : LdA P ops ro d t id off cs nx hp (some false) = LdC ops ro d t id off cs nx hp cs[off]? := rfl
def Ld (P : Program) (ops : Array Oper) (ro : Md) (d : Option Tmp) (t : TypeId) (id off : Nat) (nx : Nat) (hp : Heap) : Option ABlk → Option Out
  | some (.cells cs) => LdA P ops ro d t id off cs nx hp (isAggT P t)
  | _ => none
@[simp] theorem Ld_cells (id off : Nat) (cs : List Cell) : Ld P ops ro d t id off nx hp (some (.cells cs)) = LdA P ops ro d t id off cs nx hp (isAggT P t) := rfl
@[simp] theorem aload_ptr (id off : Nat) : aload P ops ro d t (.ptr id off) nx hp = Ld P ops ro d t id off nx hp (hget hp id) := by
  unfold aload Ld
  simp only
  cases hget hp id with
  | none => rfl
  | some b =>
    cases b with
    | map es => rfl
    | cells cs =>
      simp only
      cases isAggT P t with
      | none => rfl
      | some q =>
        cases q with
        | true => rfl
        | false =>
          simp only [LdA_f]
          cases cs[off]? with
          | none => rfl
          | some c => obtain ⟨v, f⟩ := c; cases f <;> rfl
@[simp] theorem aload_pel (e : AVal) (off : Nat) : aload P ops ro d t (.pel e off) nx hp = V nx hp (pick P t e.flat off) := V_map nx hp _
attribute [simp] hget_hset
@[simp] theorem hget_same (i : Nat) (b : ABlk) (h : Heap) : hget ((i, b) :: h) i = some b := by simp [hget]
@[simp] theorem hget_cons (i j : Nat) (b : ABlk) (h : Heap) : hget ((i, b) :: h) j = if j = i then some b else hget h j := rfl
@[simp] theorem hset_cons (i j : Nat) (b v : ABlk) (h : Heap) : hset ((i, b) :: h) j v = if j = i then (i, v) :: h else (i, b) :: hset h j v := rfl
@[simp] theorem ashift_ptr (o id off : Nat) : ashift o (.ptr id off) = some (.ptr id (off + o)) := rfl
@[simp] theorem ashift_pel (o : Nat) (e : AVal) (off : Nat) : ashift o (.pel e off) = some (.pel e (off + o)) := rfl
/-- Element n of a list, where it stands. -/
@[simp] theorem aindexa_lst (t el : TypeId) (xs : List AVal) (k : IntKind) (n : Int) (hu : P.underlying t = some (.slice el)) : aindexa P t (.lst xs) (.int k n) = if 0 ≤ n then (match xs[n.toNat]? with | some e => if e.flat.length = sizeT P el then some (.pel e 0) else none | none => none) else none := by
  unfold aindexa
  simp only [hu]
  split
  · cases xs[n.toNat]? <;> rfl
  · rfl
/-- A store. -/
def Sc (P : Program) (ops : Array Oper) (ro : Md) (t : TypeId) (id off : Nat) (x : Operand) (c : Cell) (nx : Nat) (hp : Heap) : Option ABlk → Option Out
  | some (.cells cs) =>
      if ro.lo ≤ id ∧ 0 < sizeT P t ∧ c.1.flat.length = sizeT P t ∧ off + c.1.flat.length ≤ cs.length ∧ c.1.flat.all AVal.one then
        match x, c with
        | .tmp u, (v, true) => if makes ops u ∧ sizeT P t = 1 then some ⟨.tup [], false, some u, nx, hset hp id (.cells (cs.set off (v, true)))⟩
          else some ⟨.tup [], false, none, nx, hset hp id (.cells (setCs cs off (unownS c.1.flat)))⟩
        | .const _, (.lst [], true) => some ⟨.tup [], false, none, nx, hset hp id (.cells (cs.set off (.lst [], true)))⟩
        | _, _ => some ⟨.tup [], false, none, nx, hset hp id (.cells (setCs cs off (unownS c.1.flat)))⟩
      else none
  | _ => none
theorem astore_ptr (id off : Nat) (x : Operand) (c : Cell) : astore P ops ro t (.ptr id off) x c nx hp = Sc P ops ro t id off x c nx hp (hget hp id) := by
  unfold astore Sc
  simp only
  cases hget hp id with
  | none => rfl
  | some b => cases b <;> rfl
def ScP (P : Program) (lo : Nat) (t : TypeId) (id off : Nat) (v : AVal) (clr : Option Tmp) (new : List Cell) (nx : Nat) (hp : Heap) : Option ABlk → Option Out
  | some (.cells cs) => if lo ≤ id ∧ 0 < sizeT P t ∧ v.flat.length = sizeT P t ∧ off + v.flat.length ≤ cs.length ∧ v.flat.all AVal.one then some ⟨.tup [], false, clr, nx, hset hp id (.cells (setCs cs off new))⟩ else none
  | _ => none
@[simp] theorem ScP_some (lo : Nat) (id off : Nat) (v : AVal) (clr : Option Tmp) (new cs : List Cell) : ScP P lo t id off v clr new nx hp (some (.cells cs)) = if lo ≤ id ∧ 0 < sizeT P t ∧ v.flat.length = sizeT P t ∧ off + v.flat.length ≤ cs.length ∧ v.flat.all AVal.one then some ⟨.tup [], false, clr, nx, hset hp id (.cells (setCs cs off new))⟩ else none := rfl
@[simp] theorem astore_f (id off : Nat) (u : Tmp) (v : AVal) : astore P ops ro t (.ptr id off) (.tmp u) (v, false) nx hp = ScP P ro.lo t id off v none (unownS v.flat) nx hp (hget hp id) := by
  rw [astore_ptr]
  cases hget hp id with
  | none => rfl
  | some b => cases b <;> rfl
@[simp] theorem astore_t (id off : Nat) (u : Tmp) (v : AVal) : astore P ops ro t (.ptr id off) (.tmp u) (v, true) nx hp = if makes ops u ∧ sizeT P t = 1 then ScP P ro.lo t id off v (some u) [(v, true)] nx hp (hget hp id) else ScP P ro.lo t id off v none (unownS v.flat) nx hp (hget hp id) := by
  rw [astore_ptr]
  cases hget hp id with
  | none => simp [Sc, ScP]
  | some b =>
    cases b with
    | map es => simp [Sc, ScP]
    | cells cs =>
      simp only [Sc, ScP]
      by_cases h : ro.lo ≤ id ∧ 0 < sizeT P t ∧ v.flat.length = sizeT P t ∧ off + v.flat.length ≤ cs.length ∧ v.flat.all AVal.one = true
      · simp only [if_pos h]; rfl
      · simp only [if_neg h]; split <;> rfl
@[simp] theorem astore_fn (id off : Nat) (f : FuncId) (c : Cell) : astore P ops ro t (.ptr id off) (.func f) c nx hp = ScP P ro.lo t id off c.1 none (unownS c.1.flat) nx hp (hget hp id) := by
  rw [astore_ptr]
  cases hget hp id with
  | none => rfl
  | some b => cases b <;> rfl
@[simp] theorem astore_cf (id off : Nat) (k : Value) (v : AVal) : astore P ops ro t (.ptr id off) (.const k) (v, false) nx hp = ScP P ro.lo t id off v none (unownS v.flat) nx hp (hget hp id) := by
  rw [astore_ptr]
  cases hget hp id with
  | none => rfl
  | some b =>
    cases b with
    | map es => rfl
    | cells cs => cases v <;> first | rfl | (rename_i l; cases l <;> rfl)
@[simp] theorem astore_cn (id off : Nat) (k : Value) : astore P ops ro t (.ptr id off) (.const k) (.lst [], true) nx hp = ScP P ro.lo t id off (.lst []) none [(.lst [], true)] nx hp (hget hp id) := by
  rw [astore_ptr]
  cases hget hp id with
  | none => rfl
  | some b => cases b <;> rfl
end
/-- A struct out of parts: the places of its fields, its zero. -/
def afillL (pl : List (Nat × Nat)) (cs : List AVal) (parts : List (Nat × AVal)) : Option AVal := (afill (pl.toArray[·]?) cs parts).map .agg
def fillAt (pl : List (Nat × Nat)) (cs : List AVal) (v : AVal) (r : List (Nat × AVal)) : Option (Nat × Nat) → Option AVal
  | some (off, n) => if v.flat.length = n ∧ off + n ≤ cs.length ∧ v.flat.all AVal.one then afillL pl (lsets cs off v.flat) r else none
  | none => none
@[simp] theorem fillAt_some (pl : List (Nat × Nat)) (cs : List AVal) (v : AVal) (r : List (Nat × AVal)) (off n : Nat) : fillAt pl cs v r (some (off, n)) = if v.flat.length = n ∧ off + n ≤ cs.length ∧ v.flat.all AVal.one then afillL pl (lsets cs off v.flat) r else none := rfl
@[simp] theorem afillL_nil (pl : List (Nat × Nat)) (cs : List AVal) : afillL pl cs [] = some (.agg cs) := rfl
@[simp] theorem afillL_cons (pl : List (Nat × Nat)) (cs : List AVal) (i : Nat) (v : AVal) (r : List (Nat × AVal)) : afillL pl cs ((i, v) :: r) = fillAt pl cs v r pl[i]? := by
  unfold afillL
  simp only [afill, List.getElem?_toArray]
  cases pl[i]? with
  | none => rfl
  | some q =>
    obtain ⟨off, n⟩ := q
    simp only [fillAt]
    split
    · simp only [afillL, List.getElem?_toArray]
    · rfl
@[simp] theorem lsets_nil (cs : List AVal) (i : Nat) : lsets cs i [] = cs := rfl
@[simp] theorem lsets_cons (cs : List AVal) (i : Nat) (v : AVal) (l : List AVal) : lsets cs i (v :: l) = lsets (cs.set i v) (i + 1) l := rfl
@[simp] theorem unS_int (k : IntKind) (n : Int) : unS (.int k n) = (.int k n, false) := rfl
@[simp] theorem unS_bool (b : Bool) : unS (.bool b) = (.bool b, false) := rfl
@[simp] theorem unS_str (s : ByteArray) : unS (.str s) = (.str s, false) := rfl
@[simp] theorem unS_agg (cs : List AVal) : unS (.agg cs) = (.agg cs, false) := rfl
@[simp] theorem unS_lst (xs : List AVal) : unS (.lst xs) = (.lst xs, false) := rfl
@[simp] theorem unS_tup (vs : List AVal) : unS (.tup vs) = (.tup vs, false) := rfl
@[simp] theorem unS_ptr (i o : Nat) : unS (.ptr i o) = (.ptr i o, false) := rfl
@[simp] theorem unS_pel (e : AVal) (o : Nat) : unS (.pel e o) = (.pel e o, false) := rfl
@[simp] theorem unS_map (i : Nat) : unS (.map i) = (.map i, false) := rfl
@[simp] theorem unS_sl (a b c d : Nat) (g : Bool) : unS (.sl a b c d g) = (.sl a b c d g, false) := rfl
@[simp] theorem unS_clo (f : FuncId) (l m : List AVal) : unS (.clo f l m) = (.clo f l m, false) := rfl
@[simp] theorem unS_nilp  : unS (.nilp) = (.nilp, false) := rfl
@[simp] theorem unS_nilf  : unS (.nilf) = (.nilf, false) := rfl
@[simp] theorem unS_nilm  : unS (.nilm) = (.nilm, false) := rfl
@[simp] theorem unS_bad  : unS (.bad) = (.bad, false) := rfl
@[simp] theorem unS_nils : unS .nils = (.lst [], true) := rfl
attribute [simp] setCs unown unownS pick feeds cuts makes stored
/-- Element n of an array. -/
@[simp] theorem aindexa_sl (P : Program) (t el : TypeId) (id off len sz : Nat) (ag : Bool) (k : IntKind) (n : Int) (hu : P.underlying t = some (.slice el)) : aindexa P t (.sl id off len sz ag) (.int k n) = if 0 ≤ n ∧ n < len ∧ sizeT P el = sz ∧ 0 < sz then some (.ptr id (off + n.toNat * sz)) else none := by
  unfold aindexa
  simp only [hu]
  by_cases h : 0 ≤ n ∧ n < len
  · rw [if_pos h]
    by_cases h2 : sizeT P el = sz ∧ 0 < sz
    · rw [if_pos h2, if_pos ⟨h.1, h.2, h2⟩]
    · rw [if_neg h2, if_neg fun k => h2 k.2.2]
  · rw [if_neg h, if_neg fun k => h ⟨k.1, k.2.1⟩]
@[simp] theorem bound_none (d m : Nat) : bound none d m = some d := rfl
@[simp] theorem bound_int (k : IntKind) (n : Int) (d m : Nat) : bound (some (.int k n)) d m = if 0 ≤ n ∧ n ≤ m then some n.toNat else none := rfl
def slR (id off len sz : Nat) (ag : Bool) (lo : Option AVal) : Option Nat → Option AVal
  | some h => match bound lo 0 h with
    | some l => some (if l < len ∨ l = 0 then .sl id (off + l * sz) (h - l) sz ag else .lst [])
    | none => none
  | none => none
@[simp] theorem slR_some (id off len sz : Nat) (ag : Bool) (lo : Option AVal) (h : Nat) : slR id off len sz ag lo (some h) = match bound lo 0 h with
    | some l => some (if l < len ∨ l = 0 then .sl id (off + l * sz) (h - l) sz ag else .lst [])
    | none => none := rfl
@[simp] theorem slR_none (id off len sz : Nat) (ag : Bool) (lo : Option AVal) : slR id off len sz ag lo none = none := rfl
@[simp] theorem aslice_sl (P : Program) (t e : TypeId) (id off len sz : Nat) (ag : Bool) (lo hi : Option AVal) (hu : P.underlying t = some (.slice e)) : aslice P t (.sl id off len sz ag) lo hi none = if sizeT P e = sz ∧ 0 < sz then slR id off len sz ag lo (bound hi len len) else none := by
  simp only [aslice, hu]
  split
  · cases bound hi len len with
    | none => rfl
    | some h => simp only [slR_some]; cases bound lo 0 h <;> rfl
  · rfl
def slL (xs : List AVal) (lo : Option AVal) : Option Nat → Option AVal
  | some h => match bound lo 0 h with
    | some l => some (.lst ((xs.take h).drop l))
    | none => none
  | none => none
@[simp] theorem slL_some (xs : List AVal) (lo : Option AVal) (h : Nat) : slL xs lo (some h) = match bound lo 0 h with
    | some l => some (.lst ((xs.take h).drop l))
    | none => none := rfl
@[simp] theorem slL_none (xs : List AVal) (lo : Option AVal) : slL xs lo none = none := rfl
@[simp] theorem aslice_lst (P : Program) (t e : TypeId) (xs : List AVal) (lo hi : Option AVal) (hu : P.underlying t = some (.slice e)) : aslice P t (.lst xs) lo hi none = if headOk xs (sizeT P e) = true ∧ 0 < sizeT P e then slL xs lo (bound hi xs.length xs.length) else none := by
  simp only [aslice, hu]
  split
  · cases bound hi xs.length xs.length with
    | none => rfl
    | some h => simp only [slL_some]; cases bound lo 0 h <;> rfl
  · rfl
@[simp] theorem aslice_lst3 (P : Program) (t e : TypeId) (xs : List AVal) (lo : Option AVal) (h : AVal) (k : IntKind) (m : Int) (hu : P.underlying t = some (.slice e)) : aslice P t (.lst xs) lo (some h) (some (.int k m)) = if headOk xs (sizeT P e) = true ∧ 0 < sizeT P e ∧ 0 ≤ m ∧ m ≤ xs.length then slL xs lo (bound (some h) 0 m.toNat) else none := by
  simp only [aslice, hu, Option.isSome_some, true_and]
  split
  · cases bound (some h) 0 m.toNat with
    | none => rfl
    | some h => simp only [slL_some]; cases bound lo 0 h <;> rfl
  · rfl
def slS (s : ByteArray) (lo : Option AVal) : Option Nat → Option AVal
  | some h => match bound lo 0 h with
    | some l => some (.str (s.extract l h))
    | none => none
  | none => none
@[simp] theorem slS_some (s : ByteArray) (lo : Option AVal) (h : Nat) : slS s lo (some h) = match bound lo 0 h with
    | some l => some (.str (s.extract l h))
    | none => none := rfl
@[simp] theorem slS_none (s : ByteArray) (lo : Option AVal) : slS s lo none = none := rfl
@[simp] theorem aslice_str (P : Program) (t : TypeId) (s : ByteArray) (lo hi : Option AVal) (hu : P.underlying t = some .string) : aslice P t (.str s) lo hi none = slS s lo (bound hi s.size s.size) := by
  simp only [aslice, hu]
  cases bound hi s.size s.size with
  | none => rfl
  | some h => simp only [slS_some]; cases bound lo 0 h <;> rfl
/-! ### Appending -/
def apInfo (P : Program) (t : TypeId) : Option (TypeId × Nat × Nat × Bool) := match P.underlying t with
  | some (.slice e) => match P.info? e, isAggT P e with
    | some i, some ag => if i.bytes ≠ 0 ∧ 0 < i.size ∧ zeroOk i = true then some (e, i.bytes, i.size, ag) else none
    | _, _ => none
  | _ => none
def slT (P : Program) (t : TypeId) : Bool := match P.underlying t with
  | some (.slice _) => true
  | _ => false
theorem apInfo_inv {P : Program} {t e : TypeId} {b sz : Nat} {ag : Bool} (h : apInfo P t = some (e, b, sz, ag)) : ∃ i, P.underlying t = some (.slice e) ∧ P.info? e = some i ∧ isAggT P e = some ag ∧ i.bytes ≠ 0 ∧ 0 < i.size ∧ zeroOk i = true ∧ i.bytes = b ∧ i.size = sz ∧ sizeT P e = sz := by
  unfold apInfo at h
  split at h
  · rename_i e' hu
    split at h
    · rename_i i ag' hi ha
      split at h
      · rename_i hc
        cases h
        exact ⟨i, hu, hi, ha, hc.1, hc.2.1, hc.2.2, rfl, rfl, by simp [sizeT, hi]⟩
      · cases h
    · cases h
  · cases h
theorem slT_inv {P : Program} {t : TypeId} (h : slT P t = true) : ∃ e, P.underlying t = some (.slice e) := by
  unfold slT at h
  split at h
  · rename_i e he; exact ⟨e, he⟩
  · cases h
theorem aappendO_lst {P : Program} {t t2 e : TypeId} {b sz : Nat} {ag : Bool} (hi : apInfo P t = some (e, b, sz, ag)) (h2 : slT P t2 = true) (xs ys : List AVal) (clr : Option Tmp) (nx : Nat) (hp : Heap) :
    aappendO P [t, t2] xs (.lst ys) clr nx hp = if headOk xs sz = true ∧ headOk ys sz = true ∧ (xs.length + ys.length) * b ≤ 140737488355328 then some ⟨.lst (xs ++ ys), true, clr, nx, hp⟩ else none := by
  obtain ⟨i, q1, q2, q3, q4, q5, q6, rfl, rfl, q9⟩ := apInfo_inv hi
  obtain ⟨e2, q10⟩ := slT_inv h2
  simp only [aappendO, q10, aappend, q1, q2]
  by_cases h : headOk xs i.size = true ∧ headOk ys i.size = true ∧ (xs.length + ys.length) * i.bytes ≤ 140737488355328
  · rw [if_pos h, if_pos ⟨q4, h.1, h.2.1, q6, h.2.2⟩]; rfl
  · rw [if_neg h, if_neg fun k => h ⟨k.2.1, k.2.2.1, k.2.2.2.2⟩]; rfl
def apM (lo : Nat) (b sz : Nat) (ag : Bool) (x : Operand) (nx : Nat) (hp : Heap) : Cell → Option (Nat × List AVal) → Option Out
  | (.lst [], true), some (k, ys) => if k = 0 then some ⟨.lst [], true, (match x with | .tmp u => some u | _ => none), nx, hp⟩
      else if k * b ≤ 140737488355328 then some ⟨.sl nx 0 k sz ag, false, none, nx + 1, (nx, .cells (unown ys)) :: hp⟩ else none
  | (.sl id 0 n sz' _, _), some (k, ys) => match hget hp id with
    | some (.cells cs) => if lo ≤ id ∧ sz' = sz ∧ n * sz' ≤ cs.length ∧ (n + k) * b ≤ 140737488355328 then
        some ⟨.sl nx 0 (n + k) sz' ag, false, none, nx + 1, (nx, .cells (unown ((cs.take (n * sz')).map (·.1) ++ ys))) :: hdel hp id⟩ else none
    | _ => none
  | (.nils, _), some (k, ys) => if k = 0 then some ⟨.lst [], true, none, nx, hp⟩
      else if k * b ≤ 140737488355328 then some ⟨.sl nx 0 k sz ag, false, none, nx + 1, (nx, .cells (unown ys)) :: hp⟩ else none
  | _, _ => none
theorem aappendM_eq {P : Program} {t t2 e : TypeId} {b sz : Nat} {ag : Bool} (hi : apInfo P t = some (e, b, sz, ag)) (h2 : slT P t2 = true) (lo : Nat) (x : Operand) (c : Cell) (y : AVal) (nx : Nat) (hp : Heap) :
    aappendM P lo [t, t2] x c y nx hp = apM lo b sz ag x nx hp c (cellsOf P e y hp) := by
  obtain ⟨i, q1, q2, q3, q4, q5, q6, rfl, rfl, q9⟩ := apInfo_inv hi
  obtain ⟨e2, q10⟩ := slT_inv h2
  simp only [aappendM, q1, q10, q2, q3]
  cases cellsOf P e y hp with
  | none => simp only [apM]
  | some kys =>
    obtain ⟨k, ys⟩ := kys
    simp only
    rw [if_pos ⟨q4, q5, q6⟩]
    obtain ⟨v, f⟩ := c
    cases v <;> cases f <;> first | rfl | (rename_i l; cases l <;> rfl) | (rename_i id off len sz ag; cases off <;> rfl)
theorem apInfo_none {P : Program} {t : TypeId} (h : apInfo P t = none) (e : TypeId) (he : P.underlying t = some (.slice e)) : (P.info? e = none ∨ isAggT P e = none) ∨ ∃ i ag, P.info? e = some i ∧ isAggT P e = some ag ∧ ¬ (i.bytes ≠ 0 ∧ 0 < i.size ∧ zeroOk i = true) := by
  unfold apInfo at h
  rw [he] at h
  simp only at h
  cases hi : P.info? e with
  | none => exact .inl (.inl rfl)
  | some i =>
    cases ha : isAggT P e with
    | none => exact .inl (.inr rfl)
    | some ag =>
      rw [hi, ha] at h
      simp only at h
      split at h
      · cases h
      · rename_i hc; exact .inr ⟨i, ag, rfl, rfl, hc⟩
def apG (P : Program) (lo : Nat) (x : Operand) (c : Cell) (y : AVal) (nx : Nat) (hp : Heap) : Option (TypeId × Nat × Nat × Bool) → Bool → Option Out
  | some (e, b, sz, ag), true => apM lo b sz ag x nx hp c (cellsOf P e y hp)
  | _, _ => none
@[simp] theorem apG_some (P : Program) (lo : Nat) (x : Operand) (c : Cell) (y : AVal) (nx : Nat) (hp : Heap) (e : TypeId) (b sz : Nat) (ag : Bool) : apG P lo x c y nx hp (some (e, b, sz, ag)) true = apM lo b sz ag x nx hp c (cellsOf P e y hp) := rfl
@[simp] theorem aappendM_simp {P : Program} {t t2 : TypeId} (lo : Nat) (x : Operand) (c : Cell) (y : AVal) (nx : Nat) (hp : Heap) : aappendM P lo [t, t2] x c y nx hp = apG P lo x c y nx hp (apInfo P t) (slT P t2) := by
  cases h2 : slT P t2 with
  | true =>
    cases h1 : apInfo P t with
    | some q => obtain ⟨e, b, sz, ag⟩ := q; exact aappendM_eq h1 h2 lo x c y nx hp
    | none =>
      obtain ⟨e2, q2⟩ := slT_inv h2
      unfold aappendM
      simp only [q2]
      show _ = none
      cases hu : P.underlying t with
      | none => rfl
      | some u =>
        cases u <;> (try rfl)
        rename_i e
        rcases apInfo_none h1 e hu with (h | h) | ⟨i, ag, q3, q4, q5⟩
        · simp only [h]
        · simp only [h]; cases P.info? e <;> rfl
        · simp only [q3, q4]
          cases cellsOf P e y hp with
          | none => rfl
          | some kys => obtain ⟨k, ys⟩ := kys; simp only; rw [if_neg q5]
  | false =>
    have hn : ∀ e, P.underlying t2 ≠ some (.slice e) := by
      intro e he
      unfold slT at h2
      rw [he] at h2
      cases h2
    unfold aappendM
    cases h1 : apInfo P t with
    | some q =>
      simp only
      cases hu : P.underlying t with
      | none => rfl
      | some u =>
        cases hu2 : P.underlying t2 with
        | none => cases u <;> rfl
        | some u2 => cases u <;> cases u2 <;> first | rfl | exact absurd hu2 (hn _)
    | none =>
      simp only
      cases hu : P.underlying t with
      | none => rfl
      | some u =>
        cases hu2 : P.underlying t2 with
        | none => cases u <;> rfl
        | some u2 => cases u <;> cases u2 <;> first | rfl | exact absurd hu2 (hn _)
def apH (xs ys : List AVal) (clr : Option Tmp) (nx : Nat) (hp : Heap) : Option (TypeId × Nat × Nat × Bool) → Bool → Option Out
  | some (_, b, sz, _), true => if headOk xs sz = true ∧ headOk ys sz = true ∧ (xs.length + ys.length) * b ≤ 140737488355328 then some ⟨.lst (xs ++ ys), true, clr, nx, hp⟩ else none
  | _, _ => none
@[simp] theorem apH_some (xs ys : List AVal) (clr : Option Tmp) (nx : Nat) (hp : Heap) (e : TypeId) (b sz : Nat) (ag : Bool) : apH xs ys clr nx hp (some (e, b, sz, ag)) true = if headOk xs sz = true ∧ headOk ys sz = true ∧ (xs.length + ys.length) * b ≤ 140737488355328 then some ⟨.lst (xs ++ ys), true, clr, nx, hp⟩ else none := rfl
@[simp] theorem aappendO_simp {P : Program} {t t2 : TypeId} (hs : (apInfo P t).isSome = true) (h2 : slT P t2 = true) (xs ys : List AVal) (clr : Option Tmp) (nx : Nat) (hp : Heap) : aappendO P [t, t2] xs (.lst ys) clr nx hp = apH xs ys clr nx hp (apInfo P t) true := by
  cases h1 : apInfo P t with
  | none => rw [h1] at hs; cases hs
  | some q => obtain ⟨e, b, sz, ag⟩ := q; exact aappendO_lst h1 h2 xs ys clr nx hp
@[simp] theorem apM_nil (lo b sz : Nat) (ag : Bool) (x : Operand) (nx : Nat) (hp : Heap) (k : Nat) (ys : List AVal) : apM lo b sz ag x nx hp (.lst [], true) (some (k, ys)) = if k = 0 then some ⟨.lst [], true, (match x with | .tmp u => some u | _ => none), nx, hp⟩
      else if k * b ≤ 140737488355328 then some ⟨.sl nx 0 k sz ag, false, none, nx + 1, (nx, .cells (unown ys)) :: hp⟩ else none := rfl
theorem apM_sl {hp : Heap} {id : Nat} {cs : List Cell} (hg : hget hp id = some (.cells cs)) (lo b sz : Nat) (ag ag' f : Bool) (x : Operand) (nx : Nat) (n sz' : Nat) (k : Nat) (ys : List AVal) : apM lo b sz ag x nx hp (.sl id 0 n sz' ag', f) (some (k, ys)) = if lo ≤ id ∧ sz' = sz ∧ n * sz' ≤ cs.length ∧ (n + k) * b ≤ 140737488355328 then
        some ⟨.sl nx 0 (n + k) sz' ag, false, none, nx + 1, (nx, .cells (unown ((cs.take (n * sz')).map (·.1) ++ ys))) :: hdel hp id⟩ else none := by
  simp only [apM, hg]
@[simp] theorem cellsOf_lst (P : Program) (e : TypeId) (ys : List AVal) (hp : Heap) : cellsOf P e (.lst ys) hp = if ys.all (fun y => y.flat.length == sizeT P e) then some (ys.length, flats ys) else none := rfl
def cellsB (P : Program) (e : TypeId) (off n sz : Nat) : Option ABlk → Option (Nat × List AVal)
  | some (.cells cs) => if sz = sizeT P e ∧ off + n * sz ≤ cs.length then some (n, ((cs.drop off).take (n * sz)).map (·.1)) else none
  | _ => none
@[simp] theorem cellsB_some (P : Program) (e : TypeId) (off n sz : Nat) (cs : List Cell) : cellsB P e off n sz (some (.cells cs)) = if sz = sizeT P e ∧ off + n * sz ≤ cs.length then some (n, ((cs.drop off).take (n * sz)).map (·.1)) else none := rfl
@[simp] theorem cellsOf_sl (P : Program) (e : TypeId) (id off n sz : Nat) (ag : Bool) (hp : Heap) : cellsOf P e (.sl id off n sz ag) hp = cellsB P e off n sz (hget hp id) := by
  unfold cellsOf cellsB
  simp only
  all_goals (cases hget hp id <;> (try rfl))
  all_goals (rename_i b; cases b <;> rfl)
@[simp] theorem headOk_nil (n : Nat) : headOk [] n = true := rfl
@[simp] theorem headOk_cons (x : AVal) (r : List AVal) (n : Nat) : headOk (x :: r) n = (x.flat.length == n) := rfl
@[simp] theorem flats_nil : flats [] = [] := rfl
@[simp] theorem flats_cons (x : AVal) (r : List AVal) : flats (x :: r) = x.flat ++ flats r := rfl
@[simp] theorem hget_hdel (h : Heap) (id j : Nat) : hget (hdel h id) j = if j = id then none else hget h j := by
  induction h with
  | nil => simp [hdel, hget]
  | cons p h ih =>
    obtain ⟨i, b⟩ := p
    unfold hdel at ih ⊢
    rw [List.filter_cons]
    by_cases e : i = id
    · subst e
      simp only [bne_self_eq_false, Bool.false_eq_true, if_false]
      rw [ih]
      by_cases e2 : j = i
      · simp [e2]
      · simp [e2, hget]
    · have : (i != id) = true := by simpa using e
      rw [if_pos this]
      simp only [hget]
      by_cases e2 : j = i
      · subst e2; simp [e]
      · rw [if_neg e2, if_neg e2, ih]
/-! ### Drawn orders -/
@[simp] theorem OA_dst (d : Option Tmp) (op : Op) (g : Option (Nat × Bool)) (q : List Nat) : (OA d op g q).dst = d := rfl
@[simp] theorem OA_op (d : Option Tmp) (op : Op) (g : Option (Nat × Bool)) (q : List Nat) : (OA d op g q).op = op := rfl
@[simp] theorem OA_guard (d : Option Tmp) (op : Op) (g : Option (Nat × Bool)) (q : List Nat) : (OA d op g q).guard = g := rfl
noncomputable def ODn (K : Cfg) (ops : Array Oper) (ro : Md) (j : Nat) (r : List Oper) (tr : List (Nat × Heap × Heap)) (fs : List (Nat × Option Nat)) (q : List Nat) (rd : Bool) (ft : Option Nat) (hp : Heap) : Option St → Option St
  | some s' => if rd then (if okT j ft tr q then OD K ops ro (j + 1) r tr (if q.contains j then (j, ft) :: fs else fs) (some s') else none)
      else if okF j hp s'.hp fs q then OD K ops ro (j + 1) r (if q.contains j then (j, hp, s'.hp) :: tr else tr) fs (some s') else none
  | none => none
section
variable (K : Cfg) (ops : Array Oper) (ro : Md) (j : Nat) (r : List Oper) (tr : List (Nat × Heap × Heap)) (fs : List (Nat × Option Nat)) (q : List Nat)
@[simp] theorem OD_nil (x : Option St) : OD K ops ro j [] tr fs x = x := by cases x <;> rfl
@[simp] theorem OD_none : OD K ops ro j r tr fs none = none := rfl
@[simp] theorem ODn_none (rd : Bool) (ft : Option Nat) (hp : Heap) : ODn K ops ro j r tr fs q rd ft hp none = none := rfl
@[simp] theorem ODn_r (ft : Option Nat) (hp : Heap) (s' : St) : ODn K ops ro j r tr fs q true ft hp (some s') = if okT j ft tr q then OD K ops ro (j + 1) r tr (if q.contains j then (j, ft) :: fs else fs) (some s') else none := rfl
@[simp] theorem ODn_w (ft : Option Nat) (hp : Heap) (tm' : List Cell) (nx' : Nat) (hp' : Heap) : ODn K ops ro j r tr fs q false ft hp (some ⟨tm', nx', hp'⟩) = if okF j hp hp' fs q then OD K ops ro (j + 1) r (if q.contains j then (j, hp, hp') :: tr else tr) fs (some ⟨tm', nx', hp'⟩) else none := rfl
theorem OD_cons (o : Oper) (s : St) : OD K ops ro j (o :: r) tr fs (some s) = ODn K ops ro j r tr fs (o.after.toList.map (·.on)) (rdr K.ft ro.mu ops o) (footAt o s) s.hp (astep K.P (R K) ops ro o s) := by
  unfold OD
  simp only [Option.bind_some, List.map_cons, aopsD]
  cases astep K.P (R K) ops ro o s with
  | none => rfl
  | some s' =>
    simp only [ODn]
    rfl
theorem OA_after (d : Option Tmp) (op : Op) (g : Option (Nat × Bool)) (q : List Nat) : (OA d op g q).after.toList.map (·.on) = q := by
  simp [OA, Function.comp_def]
theorem astep_OA (d : Option Tmp) (op : Op) (g : Option (Nat × Bool)) (q : List Nat) (s : St) : astep K.P (R K) ops ro (OA d op g q) s = astep K.P (R K) ops ro (O d op g) s := by
  unfold astep
  have e1 : awanted ops s.tm (OA d op g q) = awanted ops s.tm (O d op g) := rfl
  have e2 : aeff K.P (R K) ops ro (OA d op g q) (ev s.tm) s.nx s.hp = aeff K.P (R K) ops ro (O d op g) (ev s.tm) s.nx s.hp := by cases op <;> rfl
  rw [e1, e2]
  rfl
def rdO (ft : FuncId → Bool) (mu : List TypeId) (ops : Array Oper) (d : Option Tmp) : Op → Bool
  | .load t _ => !(feeds ops d && !mu.contains t)
  | .lookup .. => true
  | .call c => ftCall ft c
  | _ => false
def ftO (tm : List Cell) : Op → Option Nat
  | .load _ a => footOf (ev tm a).1
  | .lookup _ a _ _ => footOf (ev tm a).1
  | .call c => match c.args.toList with
    | [a] => footS (ev tm a).1
    | _ => none
  | _ => none
theorem rdr_O (ft : FuncId → Bool) (mu : List TypeId) (d : Option Tmp) (op : Op) (g : Option (Nat × Bool)) (q : List Nat) : rdr ft mu ops (OA d op g q) = rdO ft mu ops d op := by cases op <;> rfl
theorem foot_O (d : Option Tmp) (op : Op) (g : Option (Nat × Bool)) (q : List Nat) (s : St) : footAt (OA d op g q) s = ftO s.tm op := by cases op <;> rfl
@[simp] theorem OD_free (d : Option Tmp) (op : Op) (tm : List Cell) (nx : Nat) (hp : Heap) : OD K ops ro j (OA d op none q :: r) tr fs (some ⟨tm, nx, hp⟩) = ODn K ops ro j r tr fs q (rdO K.ft ro.mu ops d op) (ftO tm op) hp (W d tm (aeff K.P (R K) ops ro (O d op none) (ev tm) nx hp)) := by
  rw [OD_cons, OA_after, rdr_O, foot_O, astep_OA, astep_O]
@[simp] theorem OD_guard (d : Option Tmp) (op : Op) (i : Nat) (w : Bool) (tm : List Cell) (nx : Nat) (hp : Heap) : OD K ops ro j (OA d op (some (i, w)) q :: r) tr fs (some ⟨tm, nx, hp⟩) = ODn K ops ro j r tr fs q (rdO K.ft ro.mu ops d op) (ftO tm op) hp (Gt (W d tm (aeff K.P (R K) ops ro (O d op none) (ev tm) nx hp)) (W d tm (some ⟨.tup [], false, none, nx, hp⟩)) (gate2 ops[i]? tm w)) := by
  rw [OD_cons, OA_after, rdr_O, foot_O, astep_OA, astep_G]
@[simp] theorem gate2_A (t : Tmp) (op' : Op) (g' : Option (Nat × Bool)) (q : List Nat) (tm : List Cell) (w : Bool) : gate2 (some (OA (some t) op' g' q)) tm w = gate (some (getC tm t)) w := gate_getC tm t w
end
mutual
theorem same_refl : ∀ v : AVal, v.same v = true
  | .int k n => by simp [AVal.same]
  | .bool b => by simp [AVal.same]
  | .str s => by simp [AVal.same]
  | .agg l => by rw [AVal.same]; exact sames_refl l
  | .lst l => by rw [AVal.same]; exact sames_refl l
  | .tup l => by rw [AVal.same]; exact sames_refl l
  | .ptr i o => by simp [AVal.same]
  | .pel e o => by rw [AVal.same, same_refl e]; simp
  | .map i => by simp [AVal.same]
  | .sl a b c d e => by simp [AVal.same]
  | .clo f l m => by rw [AVal.same, sames_refl l, sames_refl m]; simp
  | .nilp => by simp [AVal.same]
  | .nilf => by simp [AVal.same]
  | .nilm => by simp [AVal.same]
  | .nils => by simp [AVal.same]
  | .bad => by simp [AVal.same]
theorem sames_refl : ∀ l : List AVal, sames l l = true
  | [] => by simp [sames]
  | v :: r => by rw [sames, same_refl v, sames_refl r]; rfl
end
theorem cellsSame_refl (l : List Cell) : cellsSame l l = true := by
  induction l with
  | nil => rfl
  | cons c r ih => obtain ⟨v, f⟩ := c; simp [cellsSame, same_refl, ih]
theorem pairsSame_refl (l : List (AVal × AVal)) : pairsSame l l = true := by
  induction l with
  | nil => rfl
  | cons c r ih => obtain ⟨v, f⟩ := c; simp [pairsSame, same_refl, ih]
@[simp] theorem blkSame_refl (b : Option ABlk) : blkSame b b = true := by
  cases b with
  | none => rfl
  | some b => cases b with | cells l => exact cellsSame_refl l | map l => exact pairsSame_refl l
@[simp] theorem stayB_some (h h' : Heap) (id : Nat) : stayB h h' (some id) = blkSame (hget h id) (hget h' id) := rfl
@[simp] theorem stayB_none (h h' : Heap) : stayB h h' none = true := rfl
@[simp] theorem footOf_ptr (id off : Nat) : footOf (.ptr id off) = some id := rfl
@[simp] theorem footOf_map (id : Nat) : footOf (.map id) = some id := rfl
@[simp] theorem footOf_pel (e : AVal) (off : Nat) : footOf (.pel e off) = none := rfl
@[simp] theorem footS_sl (id off len sz : Nat) (ag : Bool) : footS (.sl id off len sz ag) = some id := rfl
@[simp] theorem footS_lst (l : List AVal) : footS (.lst l) = none := rfl
attribute [simp] rdO ftO okT okF ftCall
/-! ### Loops -/
/-- The slots, those of S as f tells. -/
def mixAt (S : List Nat) (f : Nat → Cell) : Nat → List Cell → List Cell
  | _, [] => []
  | i, c :: r => (if S.contains i then f i else c) :: mixAt S f (i + 1) r
@[simp] theorem mixAt_nil (S : List Nat) (f : Nat → Cell) (i : Nat) : mixAt S f i [] = [] := rfl
@[simp] theorem mixAt_cons (S : List Nat) (f : Nat → Cell) (i : Nat) (c : Cell) (r : List Cell) : mixAt S f i (c :: r) = (if S.contains i then f i else c) :: mixAt S f (i + 1) r := rfl
theorem mix_self (S : List Nat) : ∀ (tm : List Cell) (i : Nat), mixAt S (fun j => getC tm (j - i)) i tm = tm := by
  have key : ∀ (r : List Cell) (i : Nat) (f : Nat → Cell), (∀ j c, r[j]? = some c → f (i + j) = c) → mixAt S f i r = r := by
    intro r
    induction r with
    | nil => intro i f _; rfl
    | cons c r ih =>
      intro i f h
      rw [mixAt_cons]
      have h0 := h 0 c rfl
      rw [Nat.add_zero] at h0
      rw [ih (i + 1) f fun j c' hj => by have := h (j + 1) c' (by simpa using hj); rw [← this]; congr 1; omega]
      split
      · rw [h0]
      · rfl
  intro tm i
  refine key tm i _ fun j c hj => ?_
  show getC tm (i + j - i) = c
  rw [Nat.add_sub_cancel_left, getC, hj]; rfl
/-- A loop whose rounds leave the heap alone: the slots S change, the measure falls, till a round leaves it. -/
theorem loop_at {K : Cfg} {ro : Md} {b : Code} {tm0 : List Cell} {nx : Nat} {hp : Heap} {o : Option (AExit × St)} (ho : X K ro (.loop b) ⟨tm0, nx, hp⟩ = o) (S : List Nat) (inv : Nat → (Nat → Cell) → Prop) (n0 : Nat) (h0 : inv n0 (getC tm0)) (done : Nat → (Nat → Cell) → Prop)
    (step : ∀ n f, inv n f → ¬ done n f → ∃ tm', X K ro b ⟨mixAt S f 0 tm0, nx, hp⟩ = some (.normal, ⟨tm', nx, hp⟩) ∧ mixAt S (getC tm') 0 tm0 = tm' ∧ ∃ n', n' < n ∧ inv n' (getC tm')) :
    ∃ n f, inv n f ∧ done n f ∧ o = XK K ro (.loop b) (X K ro b ⟨mixAt S f 0 tm0, nx, hp⟩) := by
  obtain ⟨n, tm, ⟨f, h1, rfl⟩, ⟨f', h2, h4, h3⟩, he⟩ := loop_run ho (fun _ n tm => ∃ f, inv n f ∧ tm = mixAt S f 0 tm0) n0 ⟨getC tm0, h0, (mix_self S tm0 0).symm⟩ (fun _ n tm => ∃ f, inv n f ∧ done n f ∧ tm = mixAt S f 0 tm0) (fun n tm ⟨f, hi, e⟩ => by
    subst e
    by_cases hd : done n f
    · exact .inl ⟨f, hi, hd, rfl⟩
    · obtain ⟨tm', q1, q2, n', q3, q4⟩ := step n f hi hd
      exact .inr ⟨n', tm', q3, ⟨_, q4, q2.symm⟩, q1⟩)
  rw [h3] at he
  exact ⟨n, f', h2, h4, he⟩
end Go.Proofs.YtkpfkadjmijmlaaGreatDoor.M
/- The types of this program, as the machine reads them: by program. -/
namespace Go.Proofs.YtkpfkadjmijmlaaGreatDoor.M
open Go.Proofs
set_option maxRecDepth 100000
@[simp] theorem sz1 : sizeT Tryz.prog 1 = 1 := by kernel_rfl
@[simp] theorem ag1 : isAggT Tryz.prog 1 = some false := by kernel_rfl
@[simp] theorem zc1 : zcells Tryz.prog 1 = some [(.nilf, false)] := by kernel_rfl
@[simp] theorem zt1 : zeroT Tryz.prog 1 = true := by kernel_rfl
@[simp] theorem sz2 : sizeT Tryz.prog 2 = 1 := by kernel_rfl
@[simp] theorem ag2 : isAggT Tryz.prog 2 = some false := by kernel_rfl
@[simp] theorem zc2 : zcells Tryz.prog 2 = some [(.int .i64 0, false)] := by kernel_rfl
@[simp] theorem zt2 : zeroT Tryz.prog 2 = true := by kernel_rfl
@[simp] theorem sz3 : sizeT Tryz.prog 3 = 1 := by kernel_rfl
@[simp] theorem ag3 : isAggT Tryz.prog 3 = some false := by kernel_rfl
@[simp] theorem zc3 : zcells Tryz.prog 3 = some [(.int .i64 0, false)] := by kernel_rfl
@[simp] theorem zt3 : zeroT Tryz.prog 3 = true := by kernel_rfl
@[simp] theorem sz4 : sizeT Tryz.prog 4 = 1 := by kernel_rfl
@[simp] theorem ag4 : isAggT Tryz.prog 4 = some false := by kernel_rfl
@[simp] theorem zc4 : zcells Tryz.prog 4 = some [(.bool false, false)] := by kernel_rfl
@[simp] theorem zt4 : zeroT Tryz.prog 4 = true := by kernel_rfl
@[simp] theorem un4 : Tryz.prog.underlying 4 = some .bool := by kernel_rfl
@[simp] theorem sz5 : sizeT Tryz.prog 5 = 1 := by kernel_rfl
@[simp] theorem ag5 : isAggT Tryz.prog 5 = some false := by kernel_rfl
@[simp] theorem zc5 : zcells Tryz.prog 5 = some [(.int .u8 0, false)] := by kernel_rfl
@[simp] theorem zt5 : zeroT Tryz.prog 5 = true := by kernel_rfl
@[simp] theorem sz6 : sizeT Tryz.prog 6 = 1 := by kernel_rfl
@[simp] theorem ag6 : isAggT Tryz.prog 6 = some false := by kernel_rfl
@[simp] theorem zc6 : zcells Tryz.prog 6 = some [(.int .u8 0, false)] := by kernel_rfl
@[simp] theorem zt6 : zeroT Tryz.prog 6 = true := by kernel_rfl
@[simp] theorem sz7 : sizeT Tryz.prog 7 = 4 := by kernel_rfl
@[simp] theorem ag7 : isAggT Tryz.prog 7 = some true := by kernel_rfl
@[simp] theorem zt7 : zeroT Tryz.prog 7 = true := by kernel_rfl
@[simp] theorem sz8 : sizeT Tryz.prog 8 = 4 := by kernel_rfl
@[simp] theorem ag8 : isAggT Tryz.prog 8 = some true := by kernel_rfl
@[simp] theorem zt8 : zeroT Tryz.prog 8 = true := by kernel_rfl
@[simp] theorem sz9 : sizeT Tryz.prog 9 = 1 := by kernel_rfl
@[simp] theorem ag9 : isAggT Tryz.prog 9 = some false := by kernel_rfl
@[simp] theorem zc9 : zcells Tryz.prog 9 = some [(.str ByteArray.empty, false)] := by kernel_rfl
@[simp] theorem zt9 : zeroT Tryz.prog 9 = true := by kernel_rfl
@[simp] theorem un9 : Tryz.prog.underlying 9 = some .string := by kernel_rfl
@[simp] theorem sz10 : sizeT Tryz.prog 10 = 1 := by kernel_rfl
@[simp] theorem ag10 : isAggT Tryz.prog 10 = some false := by kernel_rfl
@[simp] theorem zc10 : zcells Tryz.prog 10 = some [(.str ByteArray.empty, false)] := by kernel_rfl
@[simp] theorem zt10 : zeroT Tryz.prog 10 = true := by kernel_rfl
@[simp] theorem un10 : Tryz.prog.underlying 10 = some .string := by kernel_rfl
@[simp] theorem sz11 : sizeT Tryz.prog 11 = 1 := by kernel_rfl
@[simp] theorem ag11 : isAggT Tryz.prog 11 = some false := by kernel_rfl
@[simp] theorem zc11 : zcells Tryz.prog 11 = some [(.str ByteArray.empty, false)] := by kernel_rfl
@[simp] theorem zt11 : zeroT Tryz.prog 11 = true := by kernel_rfl
@[simp] theorem un11 : Tryz.prog.underlying 11 = some .string := by kernel_rfl
@[simp] theorem sz12 : sizeT Tryz.prog 12 = 1 := by kernel_rfl
@[simp] theorem ag12 : isAggT Tryz.prog 12 = some false := by kernel_rfl
@[simp] theorem zc12 : zcells Tryz.prog 12 = some [(.int .u64 0, false)] := by kernel_rfl
@[simp] theorem zt12 : zeroT Tryz.prog 12 = true := by kernel_rfl
@[simp] theorem sz13 : sizeT Tryz.prog 13 = 2 := by kernel_rfl
@[simp] theorem ag13 : isAggT Tryz.prog 13 = some true := by kernel_rfl
@[simp] theorem zt13 : zeroT Tryz.prog 13 = true := by kernel_rfl
@[simp] theorem sz14 : sizeT Tryz.prog 14 = 2 := by kernel_rfl
@[simp] theorem ag14 : isAggT Tryz.prog 14 = some true := by kernel_rfl
@[simp] theorem zt14 : zeroT Tryz.prog 14 = true := by kernel_rfl
@[simp] theorem sz15 : sizeT Tryz.prog 15 = 1 := by kernel_rfl
@[simp] theorem ag15 : isAggT Tryz.prog 15 = some false := by kernel_rfl
@[simp] theorem zc15 : zcells Tryz.prog 15 = some [(.nilp, false)] := by kernel_rfl
@[simp] theorem zt15 : zeroT Tryz.prog 15 = true := by kernel_rfl
@[simp] theorem sz16 : sizeT Tryz.prog 16 = 1 := by kernel_rfl
@[simp] theorem ag16 : isAggT Tryz.prog 16 = some false := by kernel_rfl
@[simp] theorem zc16 : zcells Tryz.prog 16 = some [(.nilp, false)] := by kernel_rfl
@[simp] theorem zt16 : zeroT Tryz.prog 16 = true := by kernel_rfl
@[simp] theorem sz17 : sizeT Tryz.prog 17 = 1 := by kernel_rfl
@[simp] theorem ag17 : isAggT Tryz.prog 17 = some false := by kernel_rfl
@[simp] theorem zc17 : zcells Tryz.prog 17 = some [(.nilp, false)] := by kernel_rfl
@[simp] theorem zt17 : zeroT Tryz.prog 17 = true := by kernel_rfl
@[simp] theorem sz18 : sizeT Tryz.prog 18 = 1 := by kernel_rfl
@[simp] theorem ag18 : isAggT Tryz.prog 18 = some true := by kernel_rfl
@[simp] theorem zc18 : zcells Tryz.prog 18 = some [(.nilp, false)] := by kernel_rfl
@[simp] theorem zt18 : zeroT Tryz.prog 18 = true := by kernel_rfl
@[simp] theorem fa18_0 (x : AVal) : afield Tryz.prog 18 x 0 = ashift 0 x := by kernel_rfl
@[simp] theorem fv18_0 (cs : List AVal) : afieldv Tryz.prog 18 (.agg cs) 0 = cs[0]? := by kernel_rfl
@[simp] theorem bd18 (nl : Bool) (ps : List (Nat × AVal)) : abuild Tryz.prog nl 18 ps = afillL [(0, 1)] (if nl then [.nilp] else [.nilp]) ps := by cases nl <;> kernel_rfl
@[simp] theorem sz19 : sizeT Tryz.prog 19 = 1 := by kernel_rfl
@[simp] theorem ag19 : isAggT Tryz.prog 19 = some true := by kernel_rfl
@[simp] theorem zc19 : zcells Tryz.prog 19 = some [(.nilp, false)] := by kernel_rfl
@[simp] theorem zt19 : zeroT Tryz.prog 19 = true := by kernel_rfl
@[simp] theorem fa19_0 (x : AVal) : afield Tryz.prog 19 x 0 = ashift 0 x := by kernel_rfl
@[simp] theorem fv19_0 (cs : List AVal) : afieldv Tryz.prog 19 (.agg cs) 0 = cs[0]? := by kernel_rfl
@[simp] theorem bd19 (nl : Bool) (ps : List (Nat × AVal)) : abuild Tryz.prog nl 19 ps = afillL [(0, 1)] (if nl then [.nilp] else [.nilp]) ps := by cases nl <;> kernel_rfl
@[simp] theorem sz21 : sizeT Tryz.prog 21 = 1 := by kernel_rfl
@[simp] theorem ag21 : isAggT Tryz.prog 21 = some false := by kernel_rfl
@[simp] theorem zc21 : zcells Tryz.prog 21 = some [(.int .i32 0, false)] := by kernel_rfl
@[simp] theorem zt21 : zeroT Tryz.prog 21 = true := by kernel_rfl
@[simp] theorem sz22 : sizeT Tryz.prog 22 = 1 := by kernel_rfl
@[simp] theorem ag22 : isAggT Tryz.prog 22 = some false := by kernel_rfl
@[simp] theorem zc22 : zcells Tryz.prog 22 = some [(.lst [], true)] := by kernel_rfl
@[simp] theorem zt22 : zeroT Tryz.prog 22 = true := by kernel_rfl
@[simp] theorem un22 : Tryz.prog.underlying 22 = some (.slice 3) := by kernel_rfl
@[simp] theorem st22 : slT Tryz.prog 22 = true := by kernel_rfl
@[simp] theorem ai22 : apInfo Tryz.prog 22 = some (3, 8, 1, false) := by kernel_rfl
@[simp] theorem sz23 : sizeT Tryz.prog 23 = 1 := by kernel_rfl
@[simp] theorem ag23 : isAggT Tryz.prog 23 = some false := by kernel_rfl
@[simp] theorem zc23 : zcells Tryz.prog 23 = some [(.nilp, false)] := by kernel_rfl
@[simp] theorem zt23 : zeroT Tryz.prog 23 = true := by kernel_rfl
@[simp] theorem sz24 : sizeT Tryz.prog 24 = 2 := by kernel_rfl
@[simp] theorem ag24 : isAggT Tryz.prog 24 = some true := by kernel_rfl
@[simp] theorem zc24 : zcells Tryz.prog 24 = some [(.lst [], true), (.int .i64 0, false)] := by kernel_rfl
@[simp] theorem zt24 : zeroT Tryz.prog 24 = true := by kernel_rfl
@[simp] theorem fa24_0 (x : AVal) : afield Tryz.prog 24 x 0 = ashift 0 x := by kernel_rfl
@[simp] theorem fv24_0 (cs : List AVal) : afieldv Tryz.prog 24 (.agg cs) 0 = cs[0]? := by kernel_rfl
@[simp] theorem fa24_1 (x : AVal) : afield Tryz.prog 24 x 1 = ashift 1 x := by kernel_rfl
@[simp] theorem fv24_1 (cs : List AVal) : afieldv Tryz.prog 24 (.agg cs) 1 = cs[1]? := by kernel_rfl
@[simp] theorem bd24 (nl : Bool) (ps : List (Nat × AVal)) : abuild Tryz.prog nl 24 ps = afillL [(0, 1), (1, 1)] (if nl then [.nils, .int .i64 0] else [.lst [], .int .i64 0]) ps := by cases nl <;> kernel_rfl
@[simp] theorem sz25 : sizeT Tryz.prog 25 = 2 := by kernel_rfl
@[simp] theorem ag25 : isAggT Tryz.prog 25 = some true := by kernel_rfl
@[simp] theorem zc25 : zcells Tryz.prog 25 = some [(.lst [], true), (.int .i64 0, false)] := by kernel_rfl
@[simp] theorem zt25 : zeroT Tryz.prog 25 = true := by kernel_rfl
@[simp] theorem fa25_0 (x : AVal) : afield Tryz.prog 25 x 0 = ashift 0 x := by kernel_rfl
@[simp] theorem fv25_0 (cs : List AVal) : afieldv Tryz.prog 25 (.agg cs) 0 = cs[0]? := by kernel_rfl
@[simp] theorem fa25_1 (x : AVal) : afield Tryz.prog 25 x 1 = ashift 1 x := by kernel_rfl
@[simp] theorem fv25_1 (cs : List AVal) : afieldv Tryz.prog 25 (.agg cs) 1 = cs[1]? := by kernel_rfl
@[simp] theorem bd25 (nl : Bool) (ps : List (Nat × AVal)) : abuild Tryz.prog nl 25 ps = afillL [(0, 1), (1, 1)] (if nl then [.nils, .int .i64 0] else [.lst [], .int .i64 0]) ps := by cases nl <;> kernel_rfl
@[simp] theorem sz26 : sizeT Tryz.prog 26 = 1 := by kernel_rfl
@[simp] theorem ag26 : isAggT Tryz.prog 26 = some false := by kernel_rfl
@[simp] theorem zc26 : zcells Tryz.prog 26 = some [(.lst [], true)] := by kernel_rfl
@[simp] theorem zt26 : zeroT Tryz.prog 26 = true := by kernel_rfl
@[simp] theorem un26 : Tryz.prog.underlying 26 = some (.slice 28) := by kernel_rfl
@[simp] theorem st26 : slT Tryz.prog 26 = true := by kernel_rfl
@[simp] theorem ai26 : apInfo Tryz.prog 26 = some (28, 56, 4, true) := by kernel_rfl
@[simp] theorem sz27 : sizeT Tryz.prog 27 = 4 := by kernel_rfl
@[simp] theorem ag27 : isAggT Tryz.prog 27 = some true := by kernel_rfl
@[simp] theorem zc27 : zcells Tryz.prog 27 = some [(.int .i64 0, false), (.int .i64 0, false), (.str ByteArray.empty, false), (.lst [], true)] := by kernel_rfl
@[simp] theorem zt27 : zeroT Tryz.prog 27 = true := by kernel_rfl
@[simp] theorem fa27_0 (x : AVal) : afield Tryz.prog 27 x 0 = ashift 0 x := by kernel_rfl
@[simp] theorem fv27_0 (cs : List AVal) : afieldv Tryz.prog 27 (.agg cs) 0 = cs[0]? := by kernel_rfl
@[simp] theorem fa27_1 (x : AVal) : afield Tryz.prog 27 x 1 = ashift 1 x := by kernel_rfl
@[simp] theorem fv27_1 (cs : List AVal) : afieldv Tryz.prog 27 (.agg cs) 1 = cs[1]? := by kernel_rfl
@[simp] theorem fa27_2 (x : AVal) : afield Tryz.prog 27 x 2 = ashift 2 x := by kernel_rfl
@[simp] theorem fv27_2 (cs : List AVal) : afieldv Tryz.prog 27 (.agg cs) 2 = cs[2]? := by kernel_rfl
@[simp] theorem fa27_3 (x : AVal) : afield Tryz.prog 27 x 3 = ashift 3 x := by kernel_rfl
@[simp] theorem fv27_3 (cs : List AVal) : afieldv Tryz.prog 27 (.agg cs) 3 = cs[3]? := by kernel_rfl
@[simp] theorem bd27 (nl : Bool) (ps : List (Nat × AVal)) : abuild Tryz.prog nl 27 ps = afillL [(0, 1), (1, 1), (2, 1), (3, 1)] (if nl then [.int .i64 0, .int .i64 0, .str ByteArray.empty, .nils] else [.int .i64 0, .int .i64 0, .str ByteArray.empty, .lst []]) ps := by cases nl <;> kernel_rfl
@[simp] theorem sz28 : sizeT Tryz.prog 28 = 4 := by kernel_rfl
@[simp] theorem ag28 : isAggT Tryz.prog 28 = some true := by kernel_rfl
@[simp] theorem zc28 : zcells Tryz.prog 28 = some [(.int .i64 0, false), (.int .i64 0, false), (.str ByteArray.empty, false), (.lst [], true)] := by kernel_rfl
@[simp] theorem zt28 : zeroT Tryz.prog 28 = true := by kernel_rfl
@[simp] theorem fa28_0 (x : AVal) : afield Tryz.prog 28 x 0 = ashift 0 x := by kernel_rfl
@[simp] theorem fv28_0 (cs : List AVal) : afieldv Tryz.prog 28 (.agg cs) 0 = cs[0]? := by kernel_rfl
@[simp] theorem fa28_1 (x : AVal) : afield Tryz.prog 28 x 1 = ashift 1 x := by kernel_rfl
@[simp] theorem fv28_1 (cs : List AVal) : afieldv Tryz.prog 28 (.agg cs) 1 = cs[1]? := by kernel_rfl
@[simp] theorem fa28_2 (x : AVal) : afield Tryz.prog 28 x 2 = ashift 2 x := by kernel_rfl
@[simp] theorem fv28_2 (cs : List AVal) : afieldv Tryz.prog 28 (.agg cs) 2 = cs[2]? := by kernel_rfl
@[simp] theorem fa28_3 (x : AVal) : afield Tryz.prog 28 x 3 = ashift 3 x := by kernel_rfl
@[simp] theorem fv28_3 (cs : List AVal) : afieldv Tryz.prog 28 (.agg cs) 3 = cs[3]? := by kernel_rfl
@[simp] theorem bd28 (nl : Bool) (ps : List (Nat × AVal)) : abuild Tryz.prog nl 28 ps = afillL [(0, 1), (1, 1), (2, 1), (3, 1)] (if nl then [.int .i64 0, .int .i64 0, .str ByteArray.empty, .nils] else [.int .i64 0, .int .i64 0, .str ByteArray.empty, .lst []]) ps := by cases nl <;> kernel_rfl
@[simp] theorem sz29 : sizeT Tryz.prog 29 = 1 := by kernel_rfl
@[simp] theorem ag29 : isAggT Tryz.prog 29 = some false := by kernel_rfl
@[simp] theorem zc29 : zcells Tryz.prog 29 = some [(.nilf, false)] := by kernel_rfl
@[simp] theorem zt29 : zeroT Tryz.prog 29 = true := by kernel_rfl
@[simp] theorem sz30 : sizeT Tryz.prog 30 = 1 := by kernel_rfl
@[simp] theorem ag30 : isAggT Tryz.prog 30 = some false := by kernel_rfl
@[simp] theorem zc30 : zcells Tryz.prog 30 = some [(.lst [], true)] := by kernel_rfl
@[simp] theorem zt30 : zeroT Tryz.prog 30 = true := by kernel_rfl
@[simp] theorem un30 : Tryz.prog.underlying 30 = some (.slice 53) := by kernel_rfl
@[simp] theorem st30 : slT Tryz.prog 30 = true := by kernel_rfl
@[simp] theorem ai30 : apInfo Tryz.prog 30 = some (53, 32, 3, true) := by kernel_rfl
@[simp] theorem sz31 : sizeT Tryz.prog 31 = 1 := by kernel_rfl
@[simp] theorem ag31 : isAggT Tryz.prog 31 = some false := by kernel_rfl
@[simp] theorem zc31 : zcells Tryz.prog 31 = some [(.nilf, false)] := by kernel_rfl
@[simp] theorem zt31 : zeroT Tryz.prog 31 = true := by kernel_rfl
@[simp] theorem sz32 : sizeT Tryz.prog 32 = 1 := by kernel_rfl
@[simp] theorem ag32 : isAggT Tryz.prog 32 = some false := by kernel_rfl
@[simp] theorem zc32 : zcells Tryz.prog 32 = some [(.lst [], true)] := by kernel_rfl
@[simp] theorem zt32 : zeroT Tryz.prog 32 = true := by kernel_rfl
@[simp] theorem un32 : Tryz.prog.underlying 32 = some (.slice 75) := by kernel_rfl
@[simp] theorem st32 : slT Tryz.prog 32 = true := by kernel_rfl
@[simp] theorem ai32 : apInfo Tryz.prog 32 = some (75, 24, 2, true) := by kernel_rfl
@[simp] theorem sz33 : sizeT Tryz.prog 33 = 1 := by kernel_rfl
@[simp] theorem ag33 : isAggT Tryz.prog 33 = some false := by kernel_rfl
@[simp] theorem zc33 : zcells Tryz.prog 33 = some [(.nilf, false)] := by kernel_rfl
@[simp] theorem zt33 : zeroT Tryz.prog 33 = true := by kernel_rfl
@[simp] theorem sz34 : sizeT Tryz.prog 34 = 1 := by kernel_rfl
@[simp] theorem ag34 : isAggT Tryz.prog 34 = some false := by kernel_rfl
@[simp] theorem zc34 : zcells Tryz.prog 34 = some [(.int .i64 0, false)] := by kernel_rfl
@[simp] theorem zt34 : zeroT Tryz.prog 34 = true := by kernel_rfl
@[simp] theorem sz35 : sizeT Tryz.prog 35 = 1 := by kernel_rfl
@[simp] theorem ag35 : isAggT Tryz.prog 35 = some false := by kernel_rfl
@[simp] theorem zc35 : zcells Tryz.prog 35 = some [(.nilf, false)] := by kernel_rfl
@[simp] theorem zt35 : zeroT Tryz.prog 35 = true := by kernel_rfl
@[simp] theorem sz36 : sizeT Tryz.prog 36 = 1 := by kernel_rfl
@[simp] theorem ag36 : isAggT Tryz.prog 36 = some false := by kernel_rfl
@[simp] theorem zc36 : zcells Tryz.prog 36 = some [(.nilf, false)] := by kernel_rfl
@[simp] theorem zt36 : zeroT Tryz.prog 36 = true := by kernel_rfl
@[simp] theorem sz38 : sizeT Tryz.prog 38 = 1 := by kernel_rfl
@[simp] theorem ag38 : isAggT Tryz.prog 38 = some false := by kernel_rfl
@[simp] theorem zc38 : zcells Tryz.prog 38 = some [(.nilf, false)] := by kernel_rfl
@[simp] theorem zt38 : zeroT Tryz.prog 38 = true := by kernel_rfl
@[simp] theorem sz40 : sizeT Tryz.prog 40 = 1 := by kernel_rfl
@[simp] theorem ag40 : isAggT Tryz.prog 40 = some false := by kernel_rfl
@[simp] theorem zc40 : zcells Tryz.prog 40 = some [(.nilf, false)] := by kernel_rfl
@[simp] theorem zt40 : zeroT Tryz.prog 40 = true := by kernel_rfl
@[simp] theorem sz42 : sizeT Tryz.prog 42 = 1 := by kernel_rfl
@[simp] theorem ag42 : isAggT Tryz.prog 42 = some false := by kernel_rfl
@[simp] theorem zc42 : zcells Tryz.prog 42 = some [(.nilf, false)] := by kernel_rfl
@[simp] theorem zt42 : zeroT Tryz.prog 42 = true := by kernel_rfl
@[simp] theorem sz44 : sizeT Tryz.prog 44 = 1 := by kernel_rfl
@[simp] theorem ag44 : isAggT Tryz.prog 44 = some false := by kernel_rfl
@[simp] theorem zc44 : zcells Tryz.prog 44 = some [(.nilf, false)] := by kernel_rfl
@[simp] theorem zt44 : zeroT Tryz.prog 44 = true := by kernel_rfl
@[simp] theorem sz45 : sizeT Tryz.prog 45 = 1 := by kernel_rfl
@[simp] theorem ag45 : isAggT Tryz.prog 45 = some false := by kernel_rfl
@[simp] theorem zc45 : zcells Tryz.prog 45 = some [(.nilf, false)] := by kernel_rfl
@[simp] theorem zt45 : zeroT Tryz.prog 45 = true := by kernel_rfl
@[simp] theorem sz46 : sizeT Tryz.prog 46 = 1 := by kernel_rfl
@[simp] theorem ag46 : isAggT Tryz.prog 46 = some false := by kernel_rfl
@[simp] theorem zc46 : zcells Tryz.prog 46 = some [(.nilf, false)] := by kernel_rfl
@[simp] theorem zt46 : zeroT Tryz.prog 46 = true := by kernel_rfl
@[simp] theorem sz47 : sizeT Tryz.prog 47 = 1 := by kernel_rfl
@[simp] theorem ag47 : isAggT Tryz.prog 47 = some false := by kernel_rfl
@[simp] theorem zc47 : zcells Tryz.prog 47 = some [(.nilf, false)] := by kernel_rfl
@[simp] theorem zt47 : zeroT Tryz.prog 47 = true := by kernel_rfl
@[simp] theorem sz48 : sizeT Tryz.prog 48 = 1 := by kernel_rfl
@[simp] theorem ag48 : isAggT Tryz.prog 48 = some false := by kernel_rfl
@[simp] theorem zc48 : zcells Tryz.prog 48 = some [(.nilf, false)] := by kernel_rfl
@[simp] theorem zt48 : zeroT Tryz.prog 48 = true := by kernel_rfl
@[simp] theorem sz50 : sizeT Tryz.prog 50 = 1 := by kernel_rfl
@[simp] theorem ag50 : isAggT Tryz.prog 50 = some false := by kernel_rfl
@[simp] theorem zc50 : zcells Tryz.prog 50 = some [(.nilf, false)] := by kernel_rfl
@[simp] theorem zt50 : zeroT Tryz.prog 50 = true := by kernel_rfl
@[simp] theorem sz51 : sizeT Tryz.prog 51 = 1 := by kernel_rfl
@[simp] theorem ag51 : isAggT Tryz.prog 51 = some false := by kernel_rfl
@[simp] theorem zc51 : zcells Tryz.prog 51 = some [(.nilf, false)] := by kernel_rfl
@[simp] theorem zt51 : zeroT Tryz.prog 51 = true := by kernel_rfl
@[simp] theorem sz52 : sizeT Tryz.prog 52 = 3 := by kernel_rfl
@[simp] theorem ag52 : isAggT Tryz.prog 52 = some true := by kernel_rfl
@[simp] theorem zc52 : zcells Tryz.prog 52 = some [(.int .i64 0, false), (.int .i64 0, false), (.str ByteArray.empty, false)] := by kernel_rfl
@[simp] theorem zt52 : zeroT Tryz.prog 52 = true := by kernel_rfl
@[simp] theorem fa52_0 (x : AVal) : afield Tryz.prog 52 x 0 = ashift 0 x := by kernel_rfl
@[simp] theorem fv52_0 (cs : List AVal) : afieldv Tryz.prog 52 (.agg cs) 0 = cs[0]? := by kernel_rfl
@[simp] theorem fa52_1 (x : AVal) : afield Tryz.prog 52 x 1 = ashift 1 x := by kernel_rfl
@[simp] theorem fv52_1 (cs : List AVal) : afieldv Tryz.prog 52 (.agg cs) 1 = cs[1]? := by kernel_rfl
@[simp] theorem fa52_2 (x : AVal) : afield Tryz.prog 52 x 2 = ashift 2 x := by kernel_rfl
@[simp] theorem fv52_2 (cs : List AVal) : afieldv Tryz.prog 52 (.agg cs) 2 = cs[2]? := by kernel_rfl
@[simp] theorem bd52 (nl : Bool) (ps : List (Nat × AVal)) : abuild Tryz.prog nl 52 ps = afillL [(0, 1), (1, 1), (2, 1)] (if nl then [.int .i64 0, .int .i64 0, .str ByteArray.empty] else [.int .i64 0, .int .i64 0, .str ByteArray.empty]) ps := by cases nl <;> kernel_rfl
@[simp] theorem sz53 : sizeT Tryz.prog 53 = 3 := by kernel_rfl
@[simp] theorem ag53 : isAggT Tryz.prog 53 = some true := by kernel_rfl
@[simp] theorem zc53 : zcells Tryz.prog 53 = some [(.int .i64 0, false), (.int .i64 0, false), (.str ByteArray.empty, false)] := by kernel_rfl
@[simp] theorem zt53 : zeroT Tryz.prog 53 = true := by kernel_rfl
@[simp] theorem fa53_0 (x : AVal) : afield Tryz.prog 53 x 0 = ashift 0 x := by kernel_rfl
@[simp] theorem fv53_0 (cs : List AVal) : afieldv Tryz.prog 53 (.agg cs) 0 = cs[0]? := by kernel_rfl
@[simp] theorem fa53_1 (x : AVal) : afield Tryz.prog 53 x 1 = ashift 1 x := by kernel_rfl
@[simp] theorem fv53_1 (cs : List AVal) : afieldv Tryz.prog 53 (.agg cs) 1 = cs[1]? := by kernel_rfl
@[simp] theorem fa53_2 (x : AVal) : afield Tryz.prog 53 x 2 = ashift 2 x := by kernel_rfl
@[simp] theorem fv53_2 (cs : List AVal) : afieldv Tryz.prog 53 (.agg cs) 2 = cs[2]? := by kernel_rfl
@[simp] theorem bd53 (nl : Bool) (ps : List (Nat × AVal)) : abuild Tryz.prog nl 53 ps = afillL [(0, 1), (1, 1), (2, 1)] (if nl then [.int .i64 0, .int .i64 0, .str ByteArray.empty] else [.int .i64 0, .int .i64 0, .str ByteArray.empty]) ps := by cases nl <;> kernel_rfl
@[simp] theorem sz54 : sizeT Tryz.prog 54 = 1 := by kernel_rfl
@[simp] theorem ag54 : isAggT Tryz.prog 54 = some false := by kernel_rfl
@[simp] theorem zc54 : zcells Tryz.prog 54 = some [(.nilf, false)] := by kernel_rfl
@[simp] theorem zt54 : zeroT Tryz.prog 54 = true := by kernel_rfl
@[simp] theorem sz55 : sizeT Tryz.prog 55 = 1 := by kernel_rfl
@[simp] theorem ag55 : isAggT Tryz.prog 55 = some false := by kernel_rfl
@[simp] theorem zc55 : zcells Tryz.prog 55 = some [(.nilf, false)] := by kernel_rfl
@[simp] theorem zt55 : zeroT Tryz.prog 55 = true := by kernel_rfl
@[simp] theorem sz56 : sizeT Tryz.prog 56 = 1 := by kernel_rfl
@[simp] theorem ag56 : isAggT Tryz.prog 56 = some false := by kernel_rfl
@[simp] theorem zc56 : zcells Tryz.prog 56 = some [(.nilf, false)] := by kernel_rfl
@[simp] theorem zt56 : zeroT Tryz.prog 56 = true := by kernel_rfl
@[simp] theorem sz58 : sizeT Tryz.prog 58 = 1 := by kernel_rfl
@[simp] theorem ag58 : isAggT Tryz.prog 58 = some false := by kernel_rfl
@[simp] theorem zc58 : zcells Tryz.prog 58 = some [(.nilf, false)] := by kernel_rfl
@[simp] theorem zt58 : zeroT Tryz.prog 58 = true := by kernel_rfl
@[simp] theorem sz59 : sizeT Tryz.prog 59 = 1 := by kernel_rfl
@[simp] theorem ag59 : isAggT Tryz.prog 59 = some false := by kernel_rfl
@[simp] theorem zc59 : zcells Tryz.prog 59 = some [(.nilf, false)] := by kernel_rfl
@[simp] theorem zt59 : zeroT Tryz.prog 59 = true := by kernel_rfl
@[simp] theorem sz60 : sizeT Tryz.prog 60 = 1 := by kernel_rfl
@[simp] theorem ag60 : isAggT Tryz.prog 60 = some false := by kernel_rfl
@[simp] theorem zc60 : zcells Tryz.prog 60 = some [(.nilf, false)] := by kernel_rfl
@[simp] theorem zt60 : zeroT Tryz.prog 60 = true := by kernel_rfl
@[simp] theorem sz61 : sizeT Tryz.prog 61 = 1 := by kernel_rfl
@[simp] theorem ag61 : isAggT Tryz.prog 61 = some false := by kernel_rfl
@[simp] theorem zc61 : zcells Tryz.prog 61 = some [(.nilf, false)] := by kernel_rfl
@[simp] theorem zt61 : zeroT Tryz.prog 61 = true := by kernel_rfl
@[simp] theorem sz63 : sizeT Tryz.prog 63 = 1 := by kernel_rfl
@[simp] theorem ag63 : isAggT Tryz.prog 63 = some false := by kernel_rfl
@[simp] theorem zc63 : zcells Tryz.prog 63 = some [(.nilf, false)] := by kernel_rfl
@[simp] theorem zt63 : zeroT Tryz.prog 63 = true := by kernel_rfl
@[simp] theorem sz64 : sizeT Tryz.prog 64 = 1 := by kernel_rfl
@[simp] theorem ag64 : isAggT Tryz.prog 64 = some false := by kernel_rfl
@[simp] theorem zc64 : zcells Tryz.prog 64 = some [(.nilf, false)] := by kernel_rfl
@[simp] theorem zt64 : zeroT Tryz.prog 64 = true := by kernel_rfl
@[simp] theorem sz65 : sizeT Tryz.prog 65 = 1 := by kernel_rfl
@[simp] theorem ag65 : isAggT Tryz.prog 65 = some false := by kernel_rfl
@[simp] theorem zc65 : zcells Tryz.prog 65 = some [(.nilf, false)] := by kernel_rfl
@[simp] theorem zt65 : zeroT Tryz.prog 65 = true := by kernel_rfl
@[simp] theorem sz66 : sizeT Tryz.prog 66 = 1 := by kernel_rfl
@[simp] theorem ag66 : isAggT Tryz.prog 66 = some false := by kernel_rfl
@[simp] theorem zc66 : zcells Tryz.prog 66 = some [(.nilf, false)] := by kernel_rfl
@[simp] theorem zt66 : zeroT Tryz.prog 66 = true := by kernel_rfl
@[simp] theorem sz67 : sizeT Tryz.prog 67 = 1 := by kernel_rfl
@[simp] theorem ag67 : isAggT Tryz.prog 67 = some false := by kernel_rfl
@[simp] theorem zc67 : zcells Tryz.prog 67 = some [(.nilp, false)] := by kernel_rfl
@[simp] theorem zt67 : zeroT Tryz.prog 67 = true := by kernel_rfl
@[simp] theorem sz68 : sizeT Tryz.prog 68 = 1 := by kernel_rfl
@[simp] theorem ag68 : isAggT Tryz.prog 68 = some false := by kernel_rfl
@[simp] theorem zc68 : zcells Tryz.prog 68 = some [(.nilf, false)] := by kernel_rfl
@[simp] theorem zt68 : zeroT Tryz.prog 68 = true := by kernel_rfl
@[simp] theorem sz69 : sizeT Tryz.prog 69 = 1 := by kernel_rfl
@[simp] theorem ag69 : isAggT Tryz.prog 69 = some false := by kernel_rfl
@[simp] theorem zc69 : zcells Tryz.prog 69 = some [(.nilf, false)] := by kernel_rfl
@[simp] theorem zt69 : zeroT Tryz.prog 69 = true := by kernel_rfl
@[simp] theorem sz70 : sizeT Tryz.prog 70 = 1 := by kernel_rfl
@[simp] theorem ag70 : isAggT Tryz.prog 70 = some false := by kernel_rfl
@[simp] theorem zc70 : zcells Tryz.prog 70 = some [(.nilf, false)] := by kernel_rfl
@[simp] theorem zt70 : zeroT Tryz.prog 70 = true := by kernel_rfl
@[simp] theorem sz71 : sizeT Tryz.prog 71 = 1 := by kernel_rfl
@[simp] theorem ag71 : isAggT Tryz.prog 71 = some false := by kernel_rfl
@[simp] theorem zc71 : zcells Tryz.prog 71 = some [(.nilf, false)] := by kernel_rfl
@[simp] theorem zt71 : zeroT Tryz.prog 71 = true := by kernel_rfl
@[simp] theorem sz72 : sizeT Tryz.prog 72 = 1 := by kernel_rfl
@[simp] theorem ag72 : isAggT Tryz.prog 72 = some false := by kernel_rfl
@[simp] theorem zc72 : zcells Tryz.prog 72 = some [(.nilf, false)] := by kernel_rfl
@[simp] theorem zt72 : zeroT Tryz.prog 72 = true := by kernel_rfl
@[simp] theorem sz73 : sizeT Tryz.prog 73 = 1 := by kernel_rfl
@[simp] theorem ag73 : isAggT Tryz.prog 73 = some false := by kernel_rfl
@[simp] theorem zc73 : zcells Tryz.prog 73 = some [(.lst [], true)] := by kernel_rfl
@[simp] theorem zt73 : zeroT Tryz.prog 73 = true := by kernel_rfl
@[simp] theorem un73 : Tryz.prog.underlying 73 = some (.slice 9) := by kernel_rfl
@[simp] theorem st73 : slT Tryz.prog 73 = true := by kernel_rfl
@[simp] theorem ai73 : apInfo Tryz.prog 73 = some (9, 16, 1, false) := by kernel_rfl
@[simp] theorem sz74 : sizeT Tryz.prog 74 = 2 := by kernel_rfl
@[simp] theorem ag74 : isAggT Tryz.prog 74 = some true := by kernel_rfl
@[simp] theorem zc74 : zcells Tryz.prog 74 = some [(.str ByteArray.empty, false), (.int .i64 0, false)] := by kernel_rfl
@[simp] theorem zt74 : zeroT Tryz.prog 74 = true := by kernel_rfl
@[simp] theorem fa74_0 (x : AVal) : afield Tryz.prog 74 x 0 = ashift 0 x := by kernel_rfl
@[simp] theorem fv74_0 (cs : List AVal) : afieldv Tryz.prog 74 (.agg cs) 0 = cs[0]? := by kernel_rfl
@[simp] theorem fa74_1 (x : AVal) : afield Tryz.prog 74 x 1 = ashift 1 x := by kernel_rfl
@[simp] theorem fv74_1 (cs : List AVal) : afieldv Tryz.prog 74 (.agg cs) 1 = cs[1]? := by kernel_rfl
@[simp] theorem bd74 (nl : Bool) (ps : List (Nat × AVal)) : abuild Tryz.prog nl 74 ps = afillL [(0, 1), (1, 1)] (if nl then [.str ByteArray.empty, .int .i64 0] else [.str ByteArray.empty, .int .i64 0]) ps := by cases nl <;> kernel_rfl
@[simp] theorem sz75 : sizeT Tryz.prog 75 = 2 := by kernel_rfl
@[simp] theorem ag75 : isAggT Tryz.prog 75 = some true := by kernel_rfl
@[simp] theorem zc75 : zcells Tryz.prog 75 = some [(.str ByteArray.empty, false), (.int .i64 0, false)] := by kernel_rfl
@[simp] theorem zt75 : zeroT Tryz.prog 75 = true := by kernel_rfl
@[simp] theorem fa75_0 (x : AVal) : afield Tryz.prog 75 x 0 = ashift 0 x := by kernel_rfl
@[simp] theorem fv75_0 (cs : List AVal) : afieldv Tryz.prog 75 (.agg cs) 0 = cs[0]? := by kernel_rfl
@[simp] theorem fa75_1 (x : AVal) : afield Tryz.prog 75 x 1 = ashift 1 x := by kernel_rfl
@[simp] theorem fv75_1 (cs : List AVal) : afieldv Tryz.prog 75 (.agg cs) 1 = cs[1]? := by kernel_rfl
@[simp] theorem bd75 (nl : Bool) (ps : List (Nat × AVal)) : abuild Tryz.prog nl 75 ps = afillL [(0, 1), (1, 1)] (if nl then [.str ByteArray.empty, .int .i64 0] else [.str ByteArray.empty, .int .i64 0]) ps := by cases nl <;> kernel_rfl
@[simp] theorem sz76 : sizeT Tryz.prog 76 = 1 := by kernel_rfl
@[simp] theorem ag76 : isAggT Tryz.prog 76 = some false := by kernel_rfl
@[simp] theorem zc76 : zcells Tryz.prog 76 = some [(.nilf, false)] := by kernel_rfl
@[simp] theorem zt76 : zeroT Tryz.prog 76 = true := by kernel_rfl
@[simp] theorem sz77 : sizeT Tryz.prog 77 = 1 := by kernel_rfl
@[simp] theorem ag77 : isAggT Tryz.prog 77 = some false := by kernel_rfl
@[simp] theorem zc77 : zcells Tryz.prog 77 = some [(.nilf, false)] := by kernel_rfl
@[simp] theorem zt77 : zeroT Tryz.prog 77 = true := by kernel_rfl
@[simp] theorem sz78 : sizeT Tryz.prog 78 = 1 := by kernel_rfl
@[simp] theorem ag78 : isAggT Tryz.prog 78 = some false := by kernel_rfl
@[simp] theorem zc78 : zcells Tryz.prog 78 = some [(.nilf, false)] := by kernel_rfl
@[simp] theorem zt78 : zeroT Tryz.prog 78 = true := by kernel_rfl
@[simp] theorem sz79 : sizeT Tryz.prog 79 = 1 := by kernel_rfl
@[simp] theorem ag79 : isAggT Tryz.prog 79 = some false := by kernel_rfl
@[simp] theorem zc79 : zcells Tryz.prog 79 = some [(.nilf, false)] := by kernel_rfl
@[simp] theorem zt79 : zeroT Tryz.prog 79 = true := by kernel_rfl
@[simp] theorem sz80 : sizeT Tryz.prog 80 = 1 := by kernel_rfl
@[simp] theorem ag80 : isAggT Tryz.prog 80 = some false := by kernel_rfl
@[simp] theorem zc80 : zcells Tryz.prog 80 = some [(.nilf, false)] := by kernel_rfl
@[simp] theorem zt80 : zeroT Tryz.prog 80 = true := by kernel_rfl
@[simp] theorem sz81 : sizeT Tryz.prog 81 = 1 := by kernel_rfl
@[simp] theorem ag81 : isAggT Tryz.prog 81 = some false := by kernel_rfl
@[simp] theorem zc81 : zcells Tryz.prog 81 = some [(.nilf, false)] := by kernel_rfl
@[simp] theorem zt81 : zeroT Tryz.prog 81 = true := by kernel_rfl
@[simp] theorem sz82 : sizeT Tryz.prog 82 = 1 := by kernel_rfl
@[simp] theorem ag82 : isAggT Tryz.prog 82 = some false := by kernel_rfl
@[simp] theorem zc82 : zcells Tryz.prog 82 = some [(.nilf, false)] := by kernel_rfl
@[simp] theorem zt82 : zeroT Tryz.prog 82 = true := by kernel_rfl
@[simp] theorem sz83 : sizeT Tryz.prog 83 = 1 := by kernel_rfl
@[simp] theorem ag83 : isAggT Tryz.prog 83 = some false := by kernel_rfl
@[simp] theorem zc83 : zcells Tryz.prog 83 = some [(.nilf, false)] := by kernel_rfl
@[simp] theorem zt83 : zeroT Tryz.prog 83 = true := by kernel_rfl
@[simp] theorem sz84 : sizeT Tryz.prog 84 = 1 := by kernel_rfl
@[simp] theorem ag84 : isAggT Tryz.prog 84 = some false := by kernel_rfl
@[simp] theorem zc84 : zcells Tryz.prog 84 = some [(.lst [], true)] := by kernel_rfl
@[simp] theorem zt84 : zeroT Tryz.prog 84 = true := by kernel_rfl
@[simp] theorem un84 : Tryz.prog.underlying 84 = some (.slice 34) := by kernel_rfl
@[simp] theorem st84 : slT Tryz.prog 84 = true := by kernel_rfl
@[simp] theorem ai84 : apInfo Tryz.prog 84 = some (34, 8, 1, false) := by kernel_rfl
@[simp] theorem sz85 : sizeT Tryz.prog 85 = 1 := by kernel_rfl
@[simp] theorem ag85 : isAggT Tryz.prog 85 = some false := by kernel_rfl
@[simp] theorem zc85 : zcells Tryz.prog 85 = some [(.nilf, false)] := by kernel_rfl
@[simp] theorem zt85 : zeroT Tryz.prog 85 = true := by kernel_rfl
@[simp] theorem sz86 : sizeT Tryz.prog 86 = 1 := by kernel_rfl
@[simp] theorem ag86 : isAggT Tryz.prog 86 = some false := by kernel_rfl
@[simp] theorem zc86 : zcells Tryz.prog 86 = some [(.nilf, false)] := by kernel_rfl
@[simp] theorem zt86 : zeroT Tryz.prog 86 = true := by kernel_rfl
@[simp] theorem sz87 : sizeT Tryz.prog 87 = 1 := by kernel_rfl
@[simp] theorem ag87 : isAggT Tryz.prog 87 = some false := by kernel_rfl
@[simp] theorem zc87 : zcells Tryz.prog 87 = some [(.nilf, false)] := by kernel_rfl
@[simp] theorem zt87 : zeroT Tryz.prog 87 = true := by kernel_rfl
@[simp] theorem sz88 : sizeT Tryz.prog 88 = 1 := by kernel_rfl
@[simp] theorem ag88 : isAggT Tryz.prog 88 = some false := by kernel_rfl
@[simp] theorem zc88 : zcells Tryz.prog 88 = some [(.nilf, false)] := by kernel_rfl
@[simp] theorem zt88 : zeroT Tryz.prog 88 = true := by kernel_rfl
@[simp] theorem sz89 : sizeT Tryz.prog 89 = 1 := by kernel_rfl
@[simp] theorem ag89 : isAggT Tryz.prog 89 = some false := by kernel_rfl
@[simp] theorem zc89 : zcells Tryz.prog 89 = some [(.nilf, false)] := by kernel_rfl
@[simp] theorem zt89 : zeroT Tryz.prog 89 = true := by kernel_rfl
@[simp] theorem sz90 : sizeT Tryz.prog 90 = 1 := by kernel_rfl
@[simp] theorem ag90 : isAggT Tryz.prog 90 = some false := by kernel_rfl
@[simp] theorem zc90 : zcells Tryz.prog 90 = some [(.nilm, false)] := by kernel_rfl
@[simp] theorem zt90 : zeroT Tryz.prog 90 = true := by kernel_rfl
@[simp] theorem un90 : Tryz.prog.underlying 90 = some (.map 9 3) := by kernel_rfl
@[simp] theorem sz91 : sizeT Tryz.prog 91 = 1 := by kernel_rfl
@[simp] theorem ag91 : isAggT Tryz.prog 91 = some false := by kernel_rfl
@[simp] theorem zc91 : zcells Tryz.prog 91 = some [(.nilf, false)] := by kernel_rfl
@[simp] theorem zt91 : zeroT Tryz.prog 91 = true := by kernel_rfl
@[simp] theorem sz92 : sizeT Tryz.prog 92 = 1 := by kernel_rfl
@[simp] theorem ag92 : isAggT Tryz.prog 92 = some false := by kernel_rfl
@[simp] theorem zc92 : zcells Tryz.prog 92 = some [(.nilf, false)] := by kernel_rfl
@[simp] theorem zt92 : zeroT Tryz.prog 92 = true := by kernel_rfl
@[simp] theorem sz93 : sizeT Tryz.prog 93 = 1 := by kernel_rfl
@[simp] theorem ag93 : isAggT Tryz.prog 93 = some false := by kernel_rfl
@[simp] theorem zc93 : zcells Tryz.prog 93 = some [(.nilf, false)] := by kernel_rfl
@[simp] theorem zt93 : zeroT Tryz.prog 93 = true := by kernel_rfl
@[simp] theorem sz94 : sizeT Tryz.prog 94 = 1 := by kernel_rfl
@[simp] theorem ag94 : isAggT Tryz.prog 94 = some false := by kernel_rfl
@[simp] theorem zc94 : zcells Tryz.prog 94 = some [(.nilp, false)] := by kernel_rfl
@[simp] theorem zt94 : zeroT Tryz.prog 94 = true := by kernel_rfl
@[simp] theorem sz95 : sizeT Tryz.prog 95 = 1 := by kernel_rfl
@[simp] theorem ag95 : isAggT Tryz.prog 95 = some false := by kernel_rfl
@[simp] theorem zc95 : zcells Tryz.prog 95 = some [(.nilp, false)] := by kernel_rfl
@[simp] theorem zt95 : zeroT Tryz.prog 95 = true := by kernel_rfl
@[simp] theorem sz96 : sizeT Tryz.prog 96 = 1 := by kernel_rfl
@[simp] theorem ag96 : isAggT Tryz.prog 96 = some false := by kernel_rfl
@[simp] theorem zc96 : zcells Tryz.prog 96 = some [(.lst [], true)] := by kernel_rfl
@[simp] theorem zt96 : zeroT Tryz.prog 96 = true := by kernel_rfl
@[simp] theorem un96 : Tryz.prog.underlying 96 = some (.slice 5) := by kernel_rfl
@[simp] theorem st96 : slT Tryz.prog 96 = true := by kernel_rfl
@[simp] theorem ai96 : apInfo Tryz.prog 96 = some (5, 1, 1, false) := by kernel_rfl
@[simp] theorem sz97 : sizeT Tryz.prog 97 = 2 := by kernel_rfl
@[simp] theorem ag97 : isAggT Tryz.prog 97 = some true := by kernel_rfl
@[simp] theorem zc97 : zcells Tryz.prog 97 = some [(.nilp, false), (.lst [], true)] := by kernel_rfl
@[simp] theorem zt97 : zeroT Tryz.prog 97 = true := by kernel_rfl
@[simp] theorem fa97_0 (x : AVal) : afield Tryz.prog 97 x 0 = ashift 0 x := by kernel_rfl
@[simp] theorem fv97_0 (cs : List AVal) : afieldv Tryz.prog 97 (.agg cs) 0 = cs[0]? := by kernel_rfl
@[simp] theorem fa97_1 (x : AVal) : afield Tryz.prog 97 x 1 = ashift 1 x := by kernel_rfl
@[simp] theorem fv97_1 (cs : List AVal) : afieldv Tryz.prog 97 (.agg cs) 1 = cs[1]? := by kernel_rfl
@[simp] theorem bd97 (nl : Bool) (ps : List (Nat × AVal)) : abuild Tryz.prog nl 97 ps = afillL [(0, 1), (1, 1)] (if nl then [.nilp, .nils] else [.nilp, .lst []]) ps := by cases nl <;> kernel_rfl
@[simp] theorem sz98 : sizeT Tryz.prog 98 = 2 := by kernel_rfl
@[simp] theorem ag98 : isAggT Tryz.prog 98 = some true := by kernel_rfl
@[simp] theorem zc98 : zcells Tryz.prog 98 = some [(.nilp, false), (.lst [], true)] := by kernel_rfl
@[simp] theorem zt98 : zeroT Tryz.prog 98 = true := by kernel_rfl
@[simp] theorem fa98_0 (x : AVal) : afield Tryz.prog 98 x 0 = ashift 0 x := by kernel_rfl
@[simp] theorem fv98_0 (cs : List AVal) : afieldv Tryz.prog 98 (.agg cs) 0 = cs[0]? := by kernel_rfl
@[simp] theorem fa98_1 (x : AVal) : afield Tryz.prog 98 x 1 = ashift 1 x := by kernel_rfl
@[simp] theorem fv98_1 (cs : List AVal) : afieldv Tryz.prog 98 (.agg cs) 1 = cs[1]? := by kernel_rfl
@[simp] theorem bd98 (nl : Bool) (ps : List (Nat × AVal)) : abuild Tryz.prog nl 98 ps = afillL [(0, 1), (1, 1)] (if nl then [.nilp, .nils] else [.nilp, .lst []]) ps := by cases nl <;> kernel_rfl
@[simp] theorem sz99 : sizeT Tryz.prog 99 = 4 := by kernel_rfl
@[simp] theorem ag99 : isAggT Tryz.prog 99 = some true := by kernel_rfl
@[simp] theorem zc99 : zcells Tryz.prog 99 = some [(.nilp, false), (.lst [], true), (.int .i64 0, false), (.lst [], true)] := by kernel_rfl
@[simp] theorem zt99 : zeroT Tryz.prog 99 = true := by kernel_rfl
@[simp] theorem fa99_0 (x : AVal) : afield Tryz.prog 99 x 0 = ashift 0 x := by kernel_rfl
@[simp] theorem fv99_0 (cs : List AVal) : afieldv Tryz.prog 99 (.agg cs) 0 = if 0 + 2 ≤ cs.length then some (.agg ((cs.drop 0).take 2)) else none := by kernel_rfl
@[simp] theorem fa99_1 (x : AVal) : afield Tryz.prog 99 x 1 = ashift 2 x := by kernel_rfl
@[simp] theorem fv99_1 (cs : List AVal) : afieldv Tryz.prog 99 (.agg cs) 1 = cs[2]? := by kernel_rfl
@[simp] theorem fa99_2 (x : AVal) : afield Tryz.prog 99 x 2 = ashift 3 x := by kernel_rfl
@[simp] theorem fv99_2 (cs : List AVal) : afieldv Tryz.prog 99 (.agg cs) 2 = cs[3]? := by kernel_rfl
@[simp] theorem bd99 (nl : Bool) (ps : List (Nat × AVal)) : abuild Tryz.prog nl 99 ps = afillL [(0, 2), (2, 1), (3, 1)] (if nl then [.nilp, .nils, .int .i64 0, .nils] else [.nilp, .lst [], .int .i64 0, .lst []]) ps := by cases nl <;> kernel_rfl
@[simp] theorem sz100 : sizeT Tryz.prog 100 = 4 := by kernel_rfl
@[simp] theorem ag100 : isAggT Tryz.prog 100 = some true := by kernel_rfl
@[simp] theorem zc100 : zcells Tryz.prog 100 = some [(.nilp, false), (.lst [], true), (.int .i64 0, false), (.lst [], true)] := by kernel_rfl
@[simp] theorem zt100 : zeroT Tryz.prog 100 = true := by kernel_rfl
@[simp] theorem fa100_0 (x : AVal) : afield Tryz.prog 100 x 0 = ashift 0 x := by kernel_rfl
@[simp] theorem fv100_0 (cs : List AVal) : afieldv Tryz.prog 100 (.agg cs) 0 = if 0 + 2 ≤ cs.length then some (.agg ((cs.drop 0).take 2)) else none := by kernel_rfl
@[simp] theorem fa100_1 (x : AVal) : afield Tryz.prog 100 x 1 = ashift 2 x := by kernel_rfl
@[simp] theorem fv100_1 (cs : List AVal) : afieldv Tryz.prog 100 (.agg cs) 1 = cs[2]? := by kernel_rfl
@[simp] theorem fa100_2 (x : AVal) : afield Tryz.prog 100 x 2 = ashift 3 x := by kernel_rfl
@[simp] theorem fv100_2 (cs : List AVal) : afieldv Tryz.prog 100 (.agg cs) 2 = cs[3]? := by kernel_rfl
@[simp] theorem bd100 (nl : Bool) (ps : List (Nat × AVal)) : abuild Tryz.prog nl 100 ps = afillL [(0, 2), (2, 1), (3, 1)] (if nl then [.nilp, .nils, .int .i64 0, .nils] else [.nilp, .lst [], .int .i64 0, .lst []]) ps := by cases nl <;> kernel_rfl
@[simp] theorem sz101 : sizeT Tryz.prog 101 = 1 := by kernel_rfl
@[simp] theorem ag101 : isAggT Tryz.prog 101 = some false := by kernel_rfl
@[simp] theorem zc101 : zcells Tryz.prog 101 = some [(.nilf, false)] := by kernel_rfl
@[simp] theorem zt101 : zeroT Tryz.prog 101 = true := by kernel_rfl
@[simp] theorem sz102 : sizeT Tryz.prog 102 = 1 := by kernel_rfl
@[simp] theorem ag102 : isAggT Tryz.prog 102 = some false := by kernel_rfl
@[simp] theorem zc102 : zcells Tryz.prog 102 = some [(.nilf, false)] := by kernel_rfl
@[simp] theorem zt102 : zeroT Tryz.prog 102 = true := by kernel_rfl
@[simp] theorem sz103 : sizeT Tryz.prog 103 = 1 := by kernel_rfl
@[simp] theorem ag103 : isAggT Tryz.prog 103 = some false := by kernel_rfl
@[simp] theorem zc103 : zcells Tryz.prog 103 = some [(.nilf, false)] := by kernel_rfl
@[simp] theorem zt103 : zeroT Tryz.prog 103 = true := by kernel_rfl
@[simp] theorem sz104 : sizeT Tryz.prog 104 = 1 := by kernel_rfl
@[simp] theorem ag104 : isAggT Tryz.prog 104 = some false := by kernel_rfl
@[simp] theorem zc104 : zcells Tryz.prog 104 = some [(.nilf, false)] := by kernel_rfl
@[simp] theorem zt104 : zeroT Tryz.prog 104 = true := by kernel_rfl
@[simp] theorem sz105 : sizeT Tryz.prog 105 = 1 := by kernel_rfl
@[simp] theorem ag105 : isAggT Tryz.prog 105 = some false := by kernel_rfl
@[simp] theorem zc105 : zcells Tryz.prog 105 = some [(.nilf, false)] := by kernel_rfl
@[simp] theorem zt105 : zeroT Tryz.prog 105 = true := by kernel_rfl
@[simp] theorem sz106 : sizeT Tryz.prog 106 = 1 := by kernel_rfl
@[simp] theorem ag106 : isAggT Tryz.prog 106 = some false := by kernel_rfl
@[simp] theorem zc106 : zcells Tryz.prog 106 = some [(.nilp, false)] := by kernel_rfl
@[simp] theorem zt106 : zeroT Tryz.prog 106 = true := by kernel_rfl
@[simp] theorem sz107 : sizeT Tryz.prog 107 = 1 := by kernel_rfl
@[simp] theorem ag107 : isAggT Tryz.prog 107 = some false := by kernel_rfl
@[simp] theorem zc107 : zcells Tryz.prog 107 = some [(.nilf, false)] := by kernel_rfl
@[simp] theorem zt107 : zeroT Tryz.prog 107 = true := by kernel_rfl
@[simp] theorem sz108 : sizeT Tryz.prog 108 = 1 := by kernel_rfl
@[simp] theorem ag108 : isAggT Tryz.prog 108 = some false := by kernel_rfl
@[simp] theorem zc108 : zcells Tryz.prog 108 = some [(.nilf, false)] := by kernel_rfl
@[simp] theorem zt108 : zeroT Tryz.prog 108 = true := by kernel_rfl
@[simp] theorem sz109 : sizeT Tryz.prog 109 = 1 := by kernel_rfl
@[simp] theorem ag109 : isAggT Tryz.prog 109 = some false := by kernel_rfl
@[simp] theorem zc109 : zcells Tryz.prog 109 = some [(.nilp, false)] := by kernel_rfl
@[simp] theorem zt109 : zeroT Tryz.prog 109 = true := by kernel_rfl
@[simp] theorem sz110 : sizeT Tryz.prog 110 = 1 := by kernel_rfl
@[simp] theorem ag110 : isAggT Tryz.prog 110 = some false := by kernel_rfl
@[simp] theorem zc110 : zcells Tryz.prog 110 = some [(.lst [], true)] := by kernel_rfl
@[simp] theorem zt110 : zeroT Tryz.prog 110 = true := by kernel_rfl
@[simp] theorem un110 : Tryz.prog.underlying 110 = some (.slice 149) := by kernel_rfl
@[simp] theorem st110 : slT Tryz.prog 110 = true := by kernel_rfl
@[simp] theorem ai110 : apInfo Tryz.prog 110 = some (149, 40, 3, true) := by kernel_rfl
@[simp] theorem sz111 : sizeT Tryz.prog 111 = 1 := by kernel_rfl
@[simp] theorem ag111 : isAggT Tryz.prog 111 = some false := by kernel_rfl
@[simp] theorem zc111 : zcells Tryz.prog 111 = some [(.nilf, false)] := by kernel_rfl
@[simp] theorem zt111 : zeroT Tryz.prog 111 = true := by kernel_rfl
@[simp] theorem sz112 : sizeT Tryz.prog 112 = 3 := by kernel_rfl
@[simp] theorem ag112 : isAggT Tryz.prog 112 = some true := by kernel_rfl
@[simp] theorem zc112 : zcells Tryz.prog 112 = some [(.lst [], true), (.int .i64 0, false), (.bool false, false)] := by kernel_rfl
@[simp] theorem zt112 : zeroT Tryz.prog 112 = true := by kernel_rfl
@[simp] theorem fa112_0 (x : AVal) : afield Tryz.prog 112 x 0 = ashift 0 x := by kernel_rfl
@[simp] theorem fv112_0 (cs : List AVal) : afieldv Tryz.prog 112 (.agg cs) 0 = cs[0]? := by kernel_rfl
@[simp] theorem fa112_1 (x : AVal) : afield Tryz.prog 112 x 1 = ashift 1 x := by kernel_rfl
@[simp] theorem fv112_1 (cs : List AVal) : afieldv Tryz.prog 112 (.agg cs) 1 = cs[1]? := by kernel_rfl
@[simp] theorem fa112_2 (x : AVal) : afield Tryz.prog 112 x 2 = ashift 2 x := by kernel_rfl
@[simp] theorem fv112_2 (cs : List AVal) : afieldv Tryz.prog 112 (.agg cs) 2 = cs[2]? := by kernel_rfl
@[simp] theorem bd112 (nl : Bool) (ps : List (Nat × AVal)) : abuild Tryz.prog nl 112 ps = afillL [(0, 1), (1, 1), (2, 1)] (if nl then [.nils, .int .i64 0, .bool false] else [.lst [], .int .i64 0, .bool false]) ps := by cases nl <;> kernel_rfl
@[simp] theorem sz113 : sizeT Tryz.prog 113 = 3 := by kernel_rfl
@[simp] theorem ag113 : isAggT Tryz.prog 113 = some true := by kernel_rfl
@[simp] theorem zc113 : zcells Tryz.prog 113 = some [(.lst [], true), (.int .i64 0, false), (.bool false, false)] := by kernel_rfl
@[simp] theorem zt113 : zeroT Tryz.prog 113 = true := by kernel_rfl
@[simp] theorem fa113_0 (x : AVal) : afield Tryz.prog 113 x 0 = ashift 0 x := by kernel_rfl
@[simp] theorem fv113_0 (cs : List AVal) : afieldv Tryz.prog 113 (.agg cs) 0 = cs[0]? := by kernel_rfl
@[simp] theorem fa113_1 (x : AVal) : afield Tryz.prog 113 x 1 = ashift 1 x := by kernel_rfl
@[simp] theorem fv113_1 (cs : List AVal) : afieldv Tryz.prog 113 (.agg cs) 1 = cs[1]? := by kernel_rfl
@[simp] theorem fa113_2 (x : AVal) : afield Tryz.prog 113 x 2 = ashift 2 x := by kernel_rfl
@[simp] theorem fv113_2 (cs : List AVal) : afieldv Tryz.prog 113 (.agg cs) 2 = cs[2]? := by kernel_rfl
@[simp] theorem bd113 (nl : Bool) (ps : List (Nat × AVal)) : abuild Tryz.prog nl 113 ps = afillL [(0, 1), (1, 1), (2, 1)] (if nl then [.nils, .int .i64 0, .bool false] else [.lst [], .int .i64 0, .bool false]) ps := by cases nl <;> kernel_rfl
@[simp] theorem sz115 : sizeT Tryz.prog 115 = 1 := by kernel_rfl
@[simp] theorem ag115 : isAggT Tryz.prog 115 = some false := by kernel_rfl
@[simp] theorem zc115 : zcells Tryz.prog 115 = some [(.nilf, false)] := by kernel_rfl
@[simp] theorem zt115 : zeroT Tryz.prog 115 = true := by kernel_rfl
@[simp] theorem sz117 : sizeT Tryz.prog 117 = 1 := by kernel_rfl
@[simp] theorem ag117 : isAggT Tryz.prog 117 = some false := by kernel_rfl
@[simp] theorem zc117 : zcells Tryz.prog 117 = some [(.nilf, false)] := by kernel_rfl
@[simp] theorem zt117 : zeroT Tryz.prog 117 = true := by kernel_rfl
@[simp] theorem sz118 : sizeT Tryz.prog 118 = 1 := by kernel_rfl
@[simp] theorem ag118 : isAggT Tryz.prog 118 = some false := by kernel_rfl
@[simp] theorem zc118 : zcells Tryz.prog 118 = some [(.int .u64 0, false)] := by kernel_rfl
@[simp] theorem zt118 : zeroT Tryz.prog 118 = true := by kernel_rfl
@[simp] theorem sz120 : sizeT Tryz.prog 120 = 1 := by kernel_rfl
@[simp] theorem ag120 : isAggT Tryz.prog 120 = some false := by kernel_rfl
@[simp] theorem zc120 : zcells Tryz.prog 120 = some [(.nilf, false)] := by kernel_rfl
@[simp] theorem zt120 : zeroT Tryz.prog 120 = true := by kernel_rfl
@[simp] theorem sz121 : sizeT Tryz.prog 121 = 1 := by kernel_rfl
@[simp] theorem ag121 : isAggT Tryz.prog 121 = some false := by kernel_rfl
@[simp] theorem zc121 : zcells Tryz.prog 121 = some [(.nilf, false)] := by kernel_rfl
@[simp] theorem zt121 : zeroT Tryz.prog 121 = true := by kernel_rfl
@[simp] theorem sz122 : sizeT Tryz.prog 122 = 1 := by kernel_rfl
@[simp] theorem ag122 : isAggT Tryz.prog 122 = some false := by kernel_rfl
@[simp] theorem zc122 : zcells Tryz.prog 122 = some [(.nilf, false)] := by kernel_rfl
@[simp] theorem zt122 : zeroT Tryz.prog 122 = true := by kernel_rfl
@[simp] theorem sz126 : sizeT Tryz.prog 126 = 1 := by kernel_rfl
@[simp] theorem ag126 : isAggT Tryz.prog 126 = some false := by kernel_rfl
@[simp] theorem zc126 : zcells Tryz.prog 126 = some [(.nilf, false)] := by kernel_rfl
@[simp] theorem zt126 : zeroT Tryz.prog 126 = true := by kernel_rfl
@[simp] theorem sz127 : sizeT Tryz.prog 127 = 1 := by kernel_rfl
@[simp] theorem ag127 : isAggT Tryz.prog 127 = some false := by kernel_rfl
@[simp] theorem zc127 : zcells Tryz.prog 127 = some [(.nilf, false)] := by kernel_rfl
@[simp] theorem zt127 : zeroT Tryz.prog 127 = true := by kernel_rfl
@[simp] theorem sz128 : sizeT Tryz.prog 128 = 1 := by kernel_rfl
@[simp] theorem ag128 : isAggT Tryz.prog 128 = some false := by kernel_rfl
@[simp] theorem zc128 : zcells Tryz.prog 128 = some [(.nilf, false)] := by kernel_rfl
@[simp] theorem zt128 : zeroT Tryz.prog 128 = true := by kernel_rfl
@[simp] theorem sz129 : sizeT Tryz.prog 129 = 1 := by kernel_rfl
@[simp] theorem ag129 : isAggT Tryz.prog 129 = some false := by kernel_rfl
@[simp] theorem zc129 : zcells Tryz.prog 129 = some [(.nilf, false)] := by kernel_rfl
@[simp] theorem zt129 : zeroT Tryz.prog 129 = true := by kernel_rfl
@[simp] theorem sz130 : sizeT Tryz.prog 130 = 1 := by kernel_rfl
@[simp] theorem ag130 : isAggT Tryz.prog 130 = some false := by kernel_rfl
@[simp] theorem zc130 : zcells Tryz.prog 130 = some [(.nilf, false)] := by kernel_rfl
@[simp] theorem zt130 : zeroT Tryz.prog 130 = true := by kernel_rfl
@[simp] theorem sz131 : sizeT Tryz.prog 131 = 1 := by kernel_rfl
@[simp] theorem ag131 : isAggT Tryz.prog 131 = some false := by kernel_rfl
@[simp] theorem zc131 : zcells Tryz.prog 131 = some [(.nilf, false)] := by kernel_rfl
@[simp] theorem zt131 : zeroT Tryz.prog 131 = true := by kernel_rfl
@[simp] theorem sz132 : sizeT Tryz.prog 132 = 1 := by kernel_rfl
@[simp] theorem ag132 : isAggT Tryz.prog 132 = some false := by kernel_rfl
@[simp] theorem zc132 : zcells Tryz.prog 132 = some [(.nilf, false)] := by kernel_rfl
@[simp] theorem zt132 : zeroT Tryz.prog 132 = true := by kernel_rfl
@[simp] theorem sz133 : sizeT Tryz.prog 133 = 4 := by kernel_rfl
@[simp] theorem ag133 : isAggT Tryz.prog 133 = some true := by kernel_rfl
@[simp] theorem zc133 : zcells Tryz.prog 133 = some [(.str ByteArray.empty, false), (.int .i64 0, false), (.int .i64 0, false), (.int .i64 0, false)] := by kernel_rfl
@[simp] theorem zt133 : zeroT Tryz.prog 133 = true := by kernel_rfl
@[simp] theorem fa133_0 (x : AVal) : afield Tryz.prog 133 x 0 = ashift 0 x := by kernel_rfl
@[simp] theorem fv133_0 (cs : List AVal) : afieldv Tryz.prog 133 (.agg cs) 0 = cs[0]? := by kernel_rfl
@[simp] theorem fa133_1 (x : AVal) : afield Tryz.prog 133 x 1 = ashift 1 x := by kernel_rfl
@[simp] theorem fv133_1 (cs : List AVal) : afieldv Tryz.prog 133 (.agg cs) 1 = cs[1]? := by kernel_rfl
@[simp] theorem fa133_2 (x : AVal) : afield Tryz.prog 133 x 2 = ashift 2 x := by kernel_rfl
@[simp] theorem fv133_2 (cs : List AVal) : afieldv Tryz.prog 133 (.agg cs) 2 = cs[2]? := by kernel_rfl
@[simp] theorem fa133_3 (x : AVal) : afield Tryz.prog 133 x 3 = ashift 3 x := by kernel_rfl
@[simp] theorem fv133_3 (cs : List AVal) : afieldv Tryz.prog 133 (.agg cs) 3 = cs[3]? := by kernel_rfl
@[simp] theorem bd133 (nl : Bool) (ps : List (Nat × AVal)) : abuild Tryz.prog nl 133 ps = afillL [(0, 1), (1, 1), (2, 1), (3, 1)] (if nl then [.str ByteArray.empty, .int .i64 0, .int .i64 0, .int .i64 0] else [.str ByteArray.empty, .int .i64 0, .int .i64 0, .int .i64 0]) ps := by cases nl <;> kernel_rfl
@[simp] theorem sz134 : sizeT Tryz.prog 134 = 4 := by kernel_rfl
@[simp] theorem ag134 : isAggT Tryz.prog 134 = some true := by kernel_rfl
@[simp] theorem zc134 : zcells Tryz.prog 134 = some [(.str ByteArray.empty, false), (.int .i64 0, false), (.int .i64 0, false), (.int .i64 0, false)] := by kernel_rfl
@[simp] theorem zt134 : zeroT Tryz.prog 134 = true := by kernel_rfl
@[simp] theorem fa134_0 (x : AVal) : afield Tryz.prog 134 x 0 = ashift 0 x := by kernel_rfl
@[simp] theorem fv134_0 (cs : List AVal) : afieldv Tryz.prog 134 (.agg cs) 0 = cs[0]? := by kernel_rfl
@[simp] theorem fa134_1 (x : AVal) : afield Tryz.prog 134 x 1 = ashift 1 x := by kernel_rfl
@[simp] theorem fv134_1 (cs : List AVal) : afieldv Tryz.prog 134 (.agg cs) 1 = cs[1]? := by kernel_rfl
@[simp] theorem fa134_2 (x : AVal) : afield Tryz.prog 134 x 2 = ashift 2 x := by kernel_rfl
@[simp] theorem fv134_2 (cs : List AVal) : afieldv Tryz.prog 134 (.agg cs) 2 = cs[2]? := by kernel_rfl
@[simp] theorem fa134_3 (x : AVal) : afield Tryz.prog 134 x 3 = ashift 3 x := by kernel_rfl
@[simp] theorem fv134_3 (cs : List AVal) : afieldv Tryz.prog 134 (.agg cs) 3 = cs[3]? := by kernel_rfl
@[simp] theorem bd134 (nl : Bool) (ps : List (Nat × AVal)) : abuild Tryz.prog nl 134 ps = afillL [(0, 1), (1, 1), (2, 1), (3, 1)] (if nl then [.str ByteArray.empty, .int .i64 0, .int .i64 0, .int .i64 0] else [.str ByteArray.empty, .int .i64 0, .int .i64 0, .int .i64 0]) ps := by cases nl <;> kernel_rfl
@[simp] theorem sz135 : sizeT Tryz.prog 135 = 1 := by kernel_rfl
@[simp] theorem ag135 : isAggT Tryz.prog 135 = some false := by kernel_rfl
@[simp] theorem zc135 : zcells Tryz.prog 135 = some [(.nilf, false)] := by kernel_rfl
@[simp] theorem zt135 : zeroT Tryz.prog 135 = true := by kernel_rfl
@[simp] theorem sz136 : sizeT Tryz.prog 136 = 1 := by kernel_rfl
@[simp] theorem ag136 : isAggT Tryz.prog 136 = some false := by kernel_rfl
@[simp] theorem zc136 : zcells Tryz.prog 136 = some [(.nilp, false)] := by kernel_rfl
@[simp] theorem zt136 : zeroT Tryz.prog 136 = true := by kernel_rfl
@[simp] theorem sz137 : sizeT Tryz.prog 137 = 1 := by kernel_rfl
@[simp] theorem ag137 : isAggT Tryz.prog 137 = some false := by kernel_rfl
@[simp] theorem zc137 : zcells Tryz.prog 137 = some [(.nilm, false)] := by kernel_rfl
@[simp] theorem zt137 : zeroT Tryz.prog 137 = true := by kernel_rfl
@[simp] theorem un137 : Tryz.prog.underlying 137 = some (.map 3 9) := by kernel_rfl
@[simp] theorem sz138 : sizeT Tryz.prog 138 = 1 := by kernel_rfl
@[simp] theorem ag138 : isAggT Tryz.prog 138 = some false := by kernel_rfl
@[simp] theorem zc138 : zcells Tryz.prog 138 = some [(.nilf, false)] := by kernel_rfl
@[simp] theorem zt138 : zeroT Tryz.prog 138 = true := by kernel_rfl
@[simp] theorem sz139 : sizeT Tryz.prog 139 = 3 := by kernel_rfl
@[simp] theorem ag139 : isAggT Tryz.prog 139 = some true := by kernel_rfl
@[simp] theorem zc139 : zcells Tryz.prog 139 = some [(.str ByteArray.empty, false), (.int .i64 0, false), (.int .i64 0, false)] := by kernel_rfl
@[simp] theorem zt139 : zeroT Tryz.prog 139 = true := by kernel_rfl
@[simp] theorem fa139_0 (x : AVal) : afield Tryz.prog 139 x 0 = ashift 0 x := by kernel_rfl
@[simp] theorem fv139_0 (cs : List AVal) : afieldv Tryz.prog 139 (.agg cs) 0 = cs[0]? := by kernel_rfl
@[simp] theorem fa139_1 (x : AVal) : afield Tryz.prog 139 x 1 = ashift 1 x := by kernel_rfl
@[simp] theorem fv139_1 (cs : List AVal) : afieldv Tryz.prog 139 (.agg cs) 1 = cs[1]? := by kernel_rfl
@[simp] theorem fa139_2 (x : AVal) : afield Tryz.prog 139 x 2 = ashift 2 x := by kernel_rfl
@[simp] theorem fv139_2 (cs : List AVal) : afieldv Tryz.prog 139 (.agg cs) 2 = cs[2]? := by kernel_rfl
@[simp] theorem bd139 (nl : Bool) (ps : List (Nat × AVal)) : abuild Tryz.prog nl 139 ps = afillL [(0, 1), (1, 1), (2, 1)] (if nl then [.str ByteArray.empty, .int .i64 0, .int .i64 0] else [.str ByteArray.empty, .int .i64 0, .int .i64 0]) ps := by cases nl <;> kernel_rfl
@[simp] theorem sz140 : sizeT Tryz.prog 140 = 3 := by kernel_rfl
@[simp] theorem ag140 : isAggT Tryz.prog 140 = some true := by kernel_rfl
@[simp] theorem zc140 : zcells Tryz.prog 140 = some [(.str ByteArray.empty, false), (.int .i64 0, false), (.int .i64 0, false)] := by kernel_rfl
@[simp] theorem zt140 : zeroT Tryz.prog 140 = true := by kernel_rfl
@[simp] theorem fa140_0 (x : AVal) : afield Tryz.prog 140 x 0 = ashift 0 x := by kernel_rfl
@[simp] theorem fv140_0 (cs : List AVal) : afieldv Tryz.prog 140 (.agg cs) 0 = cs[0]? := by kernel_rfl
@[simp] theorem fa140_1 (x : AVal) : afield Tryz.prog 140 x 1 = ashift 1 x := by kernel_rfl
@[simp] theorem fv140_1 (cs : List AVal) : afieldv Tryz.prog 140 (.agg cs) 1 = cs[1]? := by kernel_rfl
@[simp] theorem fa140_2 (x : AVal) : afield Tryz.prog 140 x 2 = ashift 2 x := by kernel_rfl
@[simp] theorem fv140_2 (cs : List AVal) : afieldv Tryz.prog 140 (.agg cs) 2 = cs[2]? := by kernel_rfl
@[simp] theorem bd140 (nl : Bool) (ps : List (Nat × AVal)) : abuild Tryz.prog nl 140 ps = afillL [(0, 1), (1, 1), (2, 1)] (if nl then [.str ByteArray.empty, .int .i64 0, .int .i64 0] else [.str ByteArray.empty, .int .i64 0, .int .i64 0]) ps := by cases nl <;> kernel_rfl
@[simp] theorem sz141 : sizeT Tryz.prog 141 = 3 := by kernel_rfl
@[simp] theorem ag141 : isAggT Tryz.prog 141 = some true := by kernel_rfl
@[simp] theorem zc141 : zcells Tryz.prog 141 = some [(.int .i64 0, false), (.str ByteArray.empty, false), (.int .i64 0, false)] := by kernel_rfl
@[simp] theorem zt141 : zeroT Tryz.prog 141 = true := by kernel_rfl
@[simp] theorem fa141_0 (x : AVal) : afield Tryz.prog 141 x 0 = ashift 0 x := by kernel_rfl
@[simp] theorem fv141_0 (cs : List AVal) : afieldv Tryz.prog 141 (.agg cs) 0 = cs[0]? := by kernel_rfl
@[simp] theorem fa141_1 (x : AVal) : afield Tryz.prog 141 x 1 = ashift 1 x := by kernel_rfl
@[simp] theorem fv141_1 (cs : List AVal) : afieldv Tryz.prog 141 (.agg cs) 1 = cs[1]? := by kernel_rfl
@[simp] theorem fa141_2 (x : AVal) : afield Tryz.prog 141 x 2 = ashift 2 x := by kernel_rfl
@[simp] theorem fv141_2 (cs : List AVal) : afieldv Tryz.prog 141 (.agg cs) 2 = cs[2]? := by kernel_rfl
@[simp] theorem bd141 (nl : Bool) (ps : List (Nat × AVal)) : abuild Tryz.prog nl 141 ps = afillL [(0, 1), (1, 1), (2, 1)] (if nl then [.int .i64 0, .str ByteArray.empty, .int .i64 0] else [.int .i64 0, .str ByteArray.empty, .int .i64 0]) ps := by cases nl <;> kernel_rfl
@[simp] theorem sz142 : sizeT Tryz.prog 142 = 3 := by kernel_rfl
@[simp] theorem ag142 : isAggT Tryz.prog 142 = some true := by kernel_rfl
@[simp] theorem zc142 : zcells Tryz.prog 142 = some [(.int .i64 0, false), (.str ByteArray.empty, false), (.int .i64 0, false)] := by kernel_rfl
@[simp] theorem zt142 : zeroT Tryz.prog 142 = true := by kernel_rfl
@[simp] theorem fa142_0 (x : AVal) : afield Tryz.prog 142 x 0 = ashift 0 x := by kernel_rfl
@[simp] theorem fv142_0 (cs : List AVal) : afieldv Tryz.prog 142 (.agg cs) 0 = cs[0]? := by kernel_rfl
@[simp] theorem fa142_1 (x : AVal) : afield Tryz.prog 142 x 1 = ashift 1 x := by kernel_rfl
@[simp] theorem fv142_1 (cs : List AVal) : afieldv Tryz.prog 142 (.agg cs) 1 = cs[1]? := by kernel_rfl
@[simp] theorem fa142_2 (x : AVal) : afield Tryz.prog 142 x 2 = ashift 2 x := by kernel_rfl
@[simp] theorem fv142_2 (cs : List AVal) : afieldv Tryz.prog 142 (.agg cs) 2 = cs[2]? := by kernel_rfl
@[simp] theorem bd142 (nl : Bool) (ps : List (Nat × AVal)) : abuild Tryz.prog nl 142 ps = afillL [(0, 1), (1, 1), (2, 1)] (if nl then [.int .i64 0, .str ByteArray.empty, .int .i64 0] else [.int .i64 0, .str ByteArray.empty, .int .i64 0]) ps := by cases nl <;> kernel_rfl
@[simp] theorem sz143 : sizeT Tryz.prog 143 = 9 := by kernel_rfl
@[simp] theorem ag143 : isAggT Tryz.prog 143 = some true := by kernel_rfl
@[simp] theorem zc143 : zcells Tryz.prog 143 = some [(.str ByteArray.empty, false), (.int .i64 0, false), (.int .i64 0, false), (.int .i64 0, false), (.str ByteArray.empty, false), (.int .i64 0, false), (.int .i64 0, false), (.bool false, false), (.int .i64 0, false)] := by kernel_rfl
@[simp] theorem zt143 : zeroT Tryz.prog 143 = true := by kernel_rfl
@[simp] theorem fa143_0 (x : AVal) : afield Tryz.prog 143 x 0 = ashift 0 x := by kernel_rfl
@[simp] theorem fv143_0 (cs : List AVal) : afieldv Tryz.prog 143 (.agg cs) 0 = if 0 + 3 ≤ cs.length then some (.agg ((cs.drop 0).take 3)) else none := by kernel_rfl
@[simp] theorem fa143_1 (x : AVal) : afield Tryz.prog 143 x 1 = ashift 3 x := by kernel_rfl
@[simp] theorem fv143_1 (cs : List AVal) : afieldv Tryz.prog 143 (.agg cs) 1 = if 3 + 3 ≤ cs.length then some (.agg ((cs.drop 3).take 3)) else none := by kernel_rfl
@[simp] theorem fa143_2 (x : AVal) : afield Tryz.prog 143 x 2 = ashift 6 x := by kernel_rfl
@[simp] theorem fv143_2 (cs : List AVal) : afieldv Tryz.prog 143 (.agg cs) 2 = cs[6]? := by kernel_rfl
@[simp] theorem fa143_3 (x : AVal) : afield Tryz.prog 143 x 3 = ashift 7 x := by kernel_rfl
@[simp] theorem fv143_3 (cs : List AVal) : afieldv Tryz.prog 143 (.agg cs) 3 = cs[7]? := by kernel_rfl
@[simp] theorem fa143_4 (x : AVal) : afield Tryz.prog 143 x 4 = ashift 8 x := by kernel_rfl
@[simp] theorem fv143_4 (cs : List AVal) : afieldv Tryz.prog 143 (.agg cs) 4 = cs[8]? := by kernel_rfl
@[simp] theorem bd143 (nl : Bool) (ps : List (Nat × AVal)) : abuild Tryz.prog nl 143 ps = afillL [(0, 3), (3, 3), (6, 1), (7, 1), (8, 1)] (if nl then [.str ByteArray.empty, .int .i64 0, .int .i64 0, .int .i64 0, .str ByteArray.empty, .int .i64 0, .int .i64 0, .bool false, .int .i64 0] else [.str ByteArray.empty, .int .i64 0, .int .i64 0, .int .i64 0, .str ByteArray.empty, .int .i64 0, .int .i64 0, .bool false, .int .i64 0]) ps := by cases nl <;> kernel_rfl
@[simp] theorem sz144 : sizeT Tryz.prog 144 = 9 := by kernel_rfl
@[simp] theorem ag144 : isAggT Tryz.prog 144 = some true := by kernel_rfl
@[simp] theorem zc144 : zcells Tryz.prog 144 = some [(.str ByteArray.empty, false), (.int .i64 0, false), (.int .i64 0, false), (.int .i64 0, false), (.str ByteArray.empty, false), (.int .i64 0, false), (.int .i64 0, false), (.bool false, false), (.int .i64 0, false)] := by kernel_rfl
@[simp] theorem zt144 : zeroT Tryz.prog 144 = true := by kernel_rfl
@[simp] theorem fa144_0 (x : AVal) : afield Tryz.prog 144 x 0 = ashift 0 x := by kernel_rfl
@[simp] theorem fv144_0 (cs : List AVal) : afieldv Tryz.prog 144 (.agg cs) 0 = if 0 + 3 ≤ cs.length then some (.agg ((cs.drop 0).take 3)) else none := by kernel_rfl
@[simp] theorem fa144_1 (x : AVal) : afield Tryz.prog 144 x 1 = ashift 3 x := by kernel_rfl
@[simp] theorem fv144_1 (cs : List AVal) : afieldv Tryz.prog 144 (.agg cs) 1 = if 3 + 3 ≤ cs.length then some (.agg ((cs.drop 3).take 3)) else none := by kernel_rfl
@[simp] theorem fa144_2 (x : AVal) : afield Tryz.prog 144 x 2 = ashift 6 x := by kernel_rfl
@[simp] theorem fv144_2 (cs : List AVal) : afieldv Tryz.prog 144 (.agg cs) 2 = cs[6]? := by kernel_rfl
@[simp] theorem fa144_3 (x : AVal) : afield Tryz.prog 144 x 3 = ashift 7 x := by kernel_rfl
@[simp] theorem fv144_3 (cs : List AVal) : afieldv Tryz.prog 144 (.agg cs) 3 = cs[7]? := by kernel_rfl
@[simp] theorem fa144_4 (x : AVal) : afield Tryz.prog 144 x 4 = ashift 8 x := by kernel_rfl
@[simp] theorem fv144_4 (cs : List AVal) : afieldv Tryz.prog 144 (.agg cs) 4 = cs[8]? := by kernel_rfl
@[simp] theorem bd144 (nl : Bool) (ps : List (Nat × AVal)) : abuild Tryz.prog nl 144 ps = afillL [(0, 3), (3, 3), (6, 1), (7, 1), (8, 1)] (if nl then [.str ByteArray.empty, .int .i64 0, .int .i64 0, .int .i64 0, .str ByteArray.empty, .int .i64 0, .int .i64 0, .bool false, .int .i64 0] else [.str ByteArray.empty, .int .i64 0, .int .i64 0, .int .i64 0, .str ByteArray.empty, .int .i64 0, .int .i64 0, .bool false, .int .i64 0]) ps := by cases nl <;> kernel_rfl
@[simp] theorem sz145 : sizeT Tryz.prog 145 = 1 := by kernel_rfl
@[simp] theorem ag145 : isAggT Tryz.prog 145 = some false := by kernel_rfl
@[simp] theorem zc145 : zcells Tryz.prog 145 = some [(.nilf, false)] := by kernel_rfl
@[simp] theorem zt145 : zeroT Tryz.prog 145 = true := by kernel_rfl
@[simp] theorem sz146 : sizeT Tryz.prog 146 = 1 := by kernel_rfl
@[simp] theorem ag146 : isAggT Tryz.prog 146 = some false := by kernel_rfl
@[simp] theorem zc146 : zcells Tryz.prog 146 = some [(.nilf, false)] := by kernel_rfl
@[simp] theorem zt146 : zeroT Tryz.prog 146 = true := by kernel_rfl
@[simp] theorem sz147 : sizeT Tryz.prog 147 = 1 := by kernel_rfl
@[simp] theorem ag147 : isAggT Tryz.prog 147 = some false := by kernel_rfl
@[simp] theorem zc147 : zcells Tryz.prog 147 = some [(.nilf, false)] := by kernel_rfl
@[simp] theorem zt147 : zeroT Tryz.prog 147 = true := by kernel_rfl
@[simp] theorem sz148 : sizeT Tryz.prog 148 = 3 := by kernel_rfl
@[simp] theorem ag148 : isAggT Tryz.prog 148 = some true := by kernel_rfl
@[simp] theorem zc148 : zcells Tryz.prog 148 = some [(.str ByteArray.empty, false), (.str ByteArray.empty, false), (.int .i64 0, false)] := by kernel_rfl
@[simp] theorem zt148 : zeroT Tryz.prog 148 = true := by kernel_rfl
@[simp] theorem fa148_0 (x : AVal) : afield Tryz.prog 148 x 0 = ashift 0 x := by kernel_rfl
@[simp] theorem fv148_0 (cs : List AVal) : afieldv Tryz.prog 148 (.agg cs) 0 = cs[0]? := by kernel_rfl
@[simp] theorem fa148_1 (x : AVal) : afield Tryz.prog 148 x 1 = ashift 1 x := by kernel_rfl
@[simp] theorem fv148_1 (cs : List AVal) : afieldv Tryz.prog 148 (.agg cs) 1 = cs[1]? := by kernel_rfl
@[simp] theorem fa148_2 (x : AVal) : afield Tryz.prog 148 x 2 = ashift 2 x := by kernel_rfl
@[simp] theorem fv148_2 (cs : List AVal) : afieldv Tryz.prog 148 (.agg cs) 2 = cs[2]? := by kernel_rfl
@[simp] theorem bd148 (nl : Bool) (ps : List (Nat × AVal)) : abuild Tryz.prog nl 148 ps = afillL [(0, 1), (1, 1), (2, 1)] (if nl then [.str ByteArray.empty, .str ByteArray.empty, .int .i64 0] else [.str ByteArray.empty, .str ByteArray.empty, .int .i64 0]) ps := by cases nl <;> kernel_rfl
@[simp] theorem sz149 : sizeT Tryz.prog 149 = 3 := by kernel_rfl
@[simp] theorem ag149 : isAggT Tryz.prog 149 = some true := by kernel_rfl
@[simp] theorem zc149 : zcells Tryz.prog 149 = some [(.str ByteArray.empty, false), (.str ByteArray.empty, false), (.int .i64 0, false)] := by kernel_rfl
@[simp] theorem zt149 : zeroT Tryz.prog 149 = true := by kernel_rfl
@[simp] theorem fa149_0 (x : AVal) : afield Tryz.prog 149 x 0 = ashift 0 x := by kernel_rfl
@[simp] theorem fv149_0 (cs : List AVal) : afieldv Tryz.prog 149 (.agg cs) 0 = cs[0]? := by kernel_rfl
@[simp] theorem fa149_1 (x : AVal) : afield Tryz.prog 149 x 1 = ashift 1 x := by kernel_rfl
@[simp] theorem fv149_1 (cs : List AVal) : afieldv Tryz.prog 149 (.agg cs) 1 = cs[1]? := by kernel_rfl
@[simp] theorem fa149_2 (x : AVal) : afield Tryz.prog 149 x 2 = ashift 2 x := by kernel_rfl
@[simp] theorem fv149_2 (cs : List AVal) : afieldv Tryz.prog 149 (.agg cs) 2 = cs[2]? := by kernel_rfl
@[simp] theorem bd149 (nl : Bool) (ps : List (Nat × AVal)) : abuild Tryz.prog nl 149 ps = afillL [(0, 1), (1, 1), (2, 1)] (if nl then [.str ByteArray.empty, .str ByteArray.empty, .int .i64 0] else [.str ByteArray.empty, .str ByteArray.empty, .int .i64 0]) ps := by cases nl <;> kernel_rfl
@[simp] theorem sz150 : sizeT Tryz.prog 150 = 1 := by kernel_rfl
@[simp] theorem ag150 : isAggT Tryz.prog 150 = some false := by kernel_rfl
@[simp] theorem zc150 : zcells Tryz.prog 150 = some [(.nilf, false)] := by kernel_rfl
@[simp] theorem zt150 : zeroT Tryz.prog 150 = true := by kernel_rfl
@[simp] theorem sz151 : sizeT Tryz.prog 151 = 1 := by kernel_rfl
@[simp] theorem ag151 : isAggT Tryz.prog 151 = some false := by kernel_rfl
@[simp] theorem zc151 : zcells Tryz.prog 151 = some [(.int .u32 0, false)] := by kernel_rfl
@[simp] theorem zt151 : zeroT Tryz.prog 151 = true := by kernel_rfl
@[simp] theorem sz153 : sizeT Tryz.prog 153 = 1 := by kernel_rfl
@[simp] theorem ag153 : isAggT Tryz.prog 153 = some false := by kernel_rfl
@[simp] theorem zc153 : zcells Tryz.prog 153 = some [(.nilf, false)] := by kernel_rfl
@[simp] theorem zt153 : zeroT Tryz.prog 153 = true := by kernel_rfl
@[simp] theorem sz154 : sizeT Tryz.prog 154 = 1 := by kernel_rfl
@[simp] theorem ag154 : isAggT Tryz.prog 154 = some false := by kernel_rfl
@[simp] theorem zc154 : zcells Tryz.prog 154 = some [(.int .u64 0, false)] := by kernel_rfl
@[simp] theorem zt154 : zeroT Tryz.prog 154 = true := by kernel_rfl
@[simp] theorem sz156 : sizeT Tryz.prog 156 = 1 := by kernel_rfl
@[simp] theorem ag156 : isAggT Tryz.prog 156 = some false := by kernel_rfl
@[simp] theorem zc156 : zcells Tryz.prog 156 = some [(.nilf, false)] := by kernel_rfl
@[simp] theorem zt156 : zeroT Tryz.prog 156 = true := by kernel_rfl
@[simp] theorem sz157 : sizeT Tryz.prog 157 = 1 := by kernel_rfl
@[simp] theorem ag157 : isAggT Tryz.prog 157 = some false := by kernel_rfl
@[simp] theorem zc157 : zcells Tryz.prog 157 = some [(.nilf, false)] := by kernel_rfl
@[simp] theorem zt157 : zeroT Tryz.prog 157 = true := by kernel_rfl
@[simp] theorem sz158 : sizeT Tryz.prog 158 = 1 := by kernel_rfl
@[simp] theorem ag158 : isAggT Tryz.prog 158 = some false := by kernel_rfl
@[simp] theorem zc158 : zcells Tryz.prog 158 = some [(.nilf, false)] := by kernel_rfl
@[simp] theorem zt158 : zeroT Tryz.prog 158 = true := by kernel_rfl
@[simp] theorem sz159 : sizeT Tryz.prog 159 = 1 := by kernel_rfl
@[simp] theorem ag159 : isAggT Tryz.prog 159 = some false := by kernel_rfl
@[simp] theorem zc159 : zcells Tryz.prog 159 = some [(.nilf, false)] := by kernel_rfl
@[simp] theorem zt159 : zeroT Tryz.prog 159 = true := by kernel_rfl
@[simp] theorem sz160 : sizeT Tryz.prog 160 = 1 := by kernel_rfl
@[simp] theorem ag160 : isAggT Tryz.prog 160 = some false := by kernel_rfl
@[simp] theorem zc160 : zcells Tryz.prog 160 = some [(.nilm, false)] := by kernel_rfl
@[simp] theorem zt160 : zeroT Tryz.prog 160 = true := by kernel_rfl
@[simp] theorem un160 : Tryz.prog.underlying 160 = some (.map 3 3) := by kernel_rfl
@[simp] theorem sz161 : sizeT Tryz.prog 161 = 1 := by kernel_rfl
@[simp] theorem ag161 : isAggT Tryz.prog 161 = some false := by kernel_rfl
@[simp] theorem zc161 : zcells Tryz.prog 161 = some [(.nilp, false)] := by kernel_rfl
@[simp] theorem zt161 : zeroT Tryz.prog 161 = true := by kernel_rfl
@[simp] theorem sz162 : sizeT Tryz.prog 162 = 1 := by kernel_rfl
@[simp] theorem ag162 : isAggT Tryz.prog 162 = some false := by kernel_rfl
@[simp] theorem zc162 : zcells Tryz.prog 162 = some [(.nilf, false)] := by kernel_rfl
@[simp] theorem zt162 : zeroT Tryz.prog 162 = true := by kernel_rfl
@[simp] theorem sz163 : sizeT Tryz.prog 163 = 1 := by kernel_rfl
@[simp] theorem ag163 : isAggT Tryz.prog 163 = some false := by kernel_rfl
@[simp] theorem zc163 : zcells Tryz.prog 163 = some [(.nilf, false)] := by kernel_rfl
@[simp] theorem zt163 : zeroT Tryz.prog 163 = true := by kernel_rfl
@[simp] theorem sz164 : sizeT Tryz.prog 164 = 1 := by kernel_rfl
@[simp] theorem ag164 : isAggT Tryz.prog 164 = some false := by kernel_rfl
@[simp] theorem zc164 : zcells Tryz.prog 164 = some [(.nilp, false)] := by kernel_rfl
@[simp] theorem zt164 : zeroT Tryz.prog 164 = true := by kernel_rfl
@[simp] theorem sz165 : sizeT Tryz.prog 165 = 1 := by kernel_rfl
@[simp] theorem ag165 : isAggT Tryz.prog 165 = some false := by kernel_rfl
@[simp] theorem zc165 : zcells Tryz.prog 165 = some [(.nilf, false)] := by kernel_rfl
@[simp] theorem zt165 : zeroT Tryz.prog 165 = true := by kernel_rfl
@[simp] theorem sz166 : sizeT Tryz.prog 166 = 1 := by kernel_rfl
@[simp] theorem ag166 : isAggT Tryz.prog 166 = some false := by kernel_rfl
@[simp] theorem zc166 : zcells Tryz.prog 166 = some [(.nilf, false)] := by kernel_rfl
@[simp] theorem zt166 : zeroT Tryz.prog 166 = true := by kernel_rfl
@[simp] theorem sz167 : sizeT Tryz.prog 167 = 1 := by kernel_rfl
@[simp] theorem ag167 : isAggT Tryz.prog 167 = some false := by kernel_rfl
@[simp] theorem zc167 : zcells Tryz.prog 167 = some [(.int .i64 0, false)] := by kernel_rfl
@[simp] theorem zt167 : zeroT Tryz.prog 167 = true := by kernel_rfl
@[simp] theorem sz169 : sizeT Tryz.prog 169 = 1 := by kernel_rfl
@[simp] theorem ag169 : isAggT Tryz.prog 169 = some false := by kernel_rfl
@[simp] theorem zc169 : zcells Tryz.prog 169 = some [(.nilf, false)] := by kernel_rfl
@[simp] theorem zt169 : zeroT Tryz.prog 169 = true := by kernel_rfl
@[simp] theorem sz170 : sizeT Tryz.prog 170 = 1 := by kernel_rfl
@[simp] theorem ag170 : isAggT Tryz.prog 170 = some false := by kernel_rfl
@[simp] theorem zc170 : zcells Tryz.prog 170 = some [(.nilf, false)] := by kernel_rfl
@[simp] theorem zt170 : zeroT Tryz.prog 170 = true := by kernel_rfl
@[simp] theorem sz171 : sizeT Tryz.prog 171 = 1 := by kernel_rfl
@[simp] theorem ag171 : isAggT Tryz.prog 171 = some false := by kernel_rfl
@[simp] theorem zc171 : zcells Tryz.prog 171 = some [(.nilf, false)] := by kernel_rfl
@[simp] theorem zt171 : zeroT Tryz.prog 171 = true := by kernel_rfl
@[simp] theorem sz172 : sizeT Tryz.prog 172 = 1 := by kernel_rfl
@[simp] theorem ag172 : isAggT Tryz.prog 172 = some false := by kernel_rfl
@[simp] theorem zc172 : zcells Tryz.prog 172 = some [(.nilf, false)] := by kernel_rfl
@[simp] theorem zt172 : zeroT Tryz.prog 172 = true := by kernel_rfl
@[simp] theorem sz173 : sizeT Tryz.prog 173 = 1 := by kernel_rfl
@[simp] theorem ag173 : isAggT Tryz.prog 173 = some false := by kernel_rfl
@[simp] theorem zc173 : zcells Tryz.prog 173 = some [(.nilf, false)] := by kernel_rfl
@[simp] theorem zt173 : zeroT Tryz.prog 173 = true := by kernel_rfl
@[simp] theorem sz174 : sizeT Tryz.prog 174 = 1 := by kernel_rfl
@[simp] theorem ag174 : isAggT Tryz.prog 174 = some false := by kernel_rfl
@[simp] theorem zc174 : zcells Tryz.prog 174 = some [(.nilf, false)] := by kernel_rfl
@[simp] theorem zt174 : zeroT Tryz.prog 174 = true := by kernel_rfl
@[simp] theorem sz175 : sizeT Tryz.prog 175 = 1 := by kernel_rfl
@[simp] theorem ag175 : isAggT Tryz.prog 175 = some false := by kernel_rfl
@[simp] theorem zc175 : zcells Tryz.prog 175 = some [(.nilf, false)] := by kernel_rfl
@[simp] theorem zt175 : zeroT Tryz.prog 175 = true := by kernel_rfl
@[simp] theorem sz176 : sizeT Tryz.prog 176 = 1 := by kernel_rfl
@[simp] theorem ag176 : isAggT Tryz.prog 176 = some false := by kernel_rfl
@[simp] theorem zc176 : zcells Tryz.prog 176 = some [(.nilf, false)] := by kernel_rfl
@[simp] theorem zt176 : zeroT Tryz.prog 176 = true := by kernel_rfl
@[simp] theorem sz180 : sizeT Tryz.prog 180 = 1 := by kernel_rfl
@[simp] theorem ag180 : isAggT Tryz.prog 180 = some false := by kernel_rfl
@[simp] theorem zc180 : zcells Tryz.prog 180 = some [(.nilf, false)] := by kernel_rfl
@[simp] theorem zt180 : zeroT Tryz.prog 180 = true := by kernel_rfl
@[simp] theorem sz181 : sizeT Tryz.prog 181 = 1 := by kernel_rfl
@[simp] theorem ag181 : isAggT Tryz.prog 181 = some false := by kernel_rfl
@[simp] theorem zc181 : zcells Tryz.prog 181 = some [(.nilf, false)] := by kernel_rfl
@[simp] theorem zt181 : zeroT Tryz.prog 181 = true := by kernel_rfl
@[simp] theorem sz182 : sizeT Tryz.prog 182 = 1 := by kernel_rfl
@[simp] theorem ag182 : isAggT Tryz.prog 182 = some false := by kernel_rfl
@[simp] theorem zc182 : zcells Tryz.prog 182 = some [(.nilp, false)] := by kernel_rfl
@[simp] theorem zt182 : zeroT Tryz.prog 182 = true := by kernel_rfl
@[simp] theorem sz183 : sizeT Tryz.prog 183 = 1 := by kernel_rfl
@[simp] theorem ag183 : isAggT Tryz.prog 183 = some false := by kernel_rfl
@[simp] theorem zc183 : zcells Tryz.prog 183 = some [(.nilf, false)] := by kernel_rfl
@[simp] theorem zt183 : zeroT Tryz.prog 183 = true := by kernel_rfl
@[simp] theorem sz184 : sizeT Tryz.prog 184 = 1 := by kernel_rfl
@[simp] theorem ag184 : isAggT Tryz.prog 184 = some false := by kernel_rfl
@[simp] theorem zc184 : zcells Tryz.prog 184 = some [(.nilf, false)] := by kernel_rfl
@[simp] theorem zt184 : zeroT Tryz.prog 184 = true := by kernel_rfl
@[simp] theorem sz185 : sizeT Tryz.prog 185 = 1 := by kernel_rfl
@[simp] theorem ag185 : isAggT Tryz.prog 185 = some false := by kernel_rfl
@[simp] theorem zc185 : zcells Tryz.prog 185 = some [(.nilf, false)] := by kernel_rfl
@[simp] theorem zt185 : zeroT Tryz.prog 185 = true := by kernel_rfl
@[simp] theorem sz186 : sizeT Tryz.prog 186 = 1 := by kernel_rfl
@[simp] theorem ag186 : isAggT Tryz.prog 186 = some false := by kernel_rfl
@[simp] theorem zc186 : zcells Tryz.prog 186 = some [(.int .u64 0, false)] := by kernel_rfl
@[simp] theorem zt186 : zeroT Tryz.prog 186 = true := by kernel_rfl
@[simp] theorem sz187 : sizeT Tryz.prog 187 = 1 := by kernel_rfl
@[simp] theorem ag187 : isAggT Tryz.prog 187 = some false := by kernel_rfl
@[simp] theorem zc187 : zcells Tryz.prog 187 = some [(.nilf, false)] := by kernel_rfl
@[simp] theorem zt187 : zeroT Tryz.prog 187 = true := by kernel_rfl
@[simp] theorem sz188 : sizeT Tryz.prog 188 = 1 := by kernel_rfl
@[simp] theorem ag188 : isAggT Tryz.prog 188 = some false := by kernel_rfl
@[simp] theorem zc188 : zcells Tryz.prog 188 = some [(.nilf, false)] := by kernel_rfl
@[simp] theorem zt188 : zeroT Tryz.prog 188 = true := by kernel_rfl
@[simp] theorem sz189 : sizeT Tryz.prog 189 = 1 := by kernel_rfl
@[simp] theorem ag189 : isAggT Tryz.prog 189 = some false := by kernel_rfl
@[simp] theorem zc189 : zcells Tryz.prog 189 = some [(.nilf, false)] := by kernel_rfl
@[simp] theorem zt189 : zeroT Tryz.prog 189 = true := by kernel_rfl
@[simp] theorem sz190 : sizeT Tryz.prog 190 = 1 := by kernel_rfl
@[simp] theorem ag190 : isAggT Tryz.prog 190 = some false := by kernel_rfl
@[simp] theorem zc190 : zcells Tryz.prog 190 = some [(.nilp, false)] := by kernel_rfl
@[simp] theorem zt190 : zeroT Tryz.prog 190 = true := by kernel_rfl
@[simp] theorem sz191 : sizeT Tryz.prog 191 = 1 := by kernel_rfl
@[simp] theorem ag191 : isAggT Tryz.prog 191 = some false := by kernel_rfl
@[simp] theorem zc191 : zcells Tryz.prog 191 = some [(.nilf, false)] := by kernel_rfl
@[simp] theorem zt191 : zeroT Tryz.prog 191 = true := by kernel_rfl
@[simp] theorem sz193 : sizeT Tryz.prog 193 = 1 := by kernel_rfl
@[simp] theorem ag193 : isAggT Tryz.prog 193 = some false := by kernel_rfl
@[simp] theorem zc193 : zcells Tryz.prog 193 = some [(.nilf, false)] := by kernel_rfl
@[simp] theorem zt193 : zeroT Tryz.prog 193 = true := by kernel_rfl
@[simp] theorem sz194 : sizeT Tryz.prog 194 = 1 := by kernel_rfl
@[simp] theorem ag194 : isAggT Tryz.prog 194 = some false := by kernel_rfl
@[simp] theorem zc194 : zcells Tryz.prog 194 = some [(.nilf, false)] := by kernel_rfl
@[simp] theorem zt194 : zeroT Tryz.prog 194 = true := by kernel_rfl
@[simp] theorem sz195 : sizeT Tryz.prog 195 = 24 := by kernel_rfl
@[simp] theorem ag195 : isAggT Tryz.prog 195 = some true := by kernel_rfl
@[simp] theorem zc195 : zcells Tryz.prog 195 = some [(.int .u8 0, false), (.int .u8 0, false), (.int .u8 0, false), (.int .u8 0, false), (.int .u8 0, false), (.int .u8 0, false), (.int .u8 0, false), (.int .u8 0, false), (.int .u8 0, false), (.int .u8 0, false), (.int .u8 0, false), (.int .u8 0, false), (.int .u8 0, false), (.int .u8 0, false), (.int .u8 0, false), (.int .u8 0, false), (.int .u8 0, false), (.int .u8 0, false), (.int .u8 0, false), (.int .u8 0, false), (.int .u8 0, false), (.int .u8 0, false), (.int .u8 0, false), (.int .u8 0, false)] := by kernel_rfl
@[simp] theorem zt195 : zeroT Tryz.prog 195 = true := by kernel_rfl
@[simp] theorem sz196 : sizeT Tryz.prog 196 = 1 := by kernel_rfl
@[simp] theorem ag196 : isAggT Tryz.prog 196 = some false := by kernel_rfl
@[simp] theorem zc196 : zcells Tryz.prog 196 = some [(.nilf, false)] := by kernel_rfl
@[simp] theorem zt196 : zeroT Tryz.prog 196 = true := by kernel_rfl
@[simp] theorem sz198 : sizeT Tryz.prog 198 = 1 := by kernel_rfl
@[simp] theorem ag198 : isAggT Tryz.prog 198 = some false := by kernel_rfl
@[simp] theorem zc198 : zcells Tryz.prog 198 = some [(.nilf, false)] := by kernel_rfl
@[simp] theorem zt198 : zeroT Tryz.prog 198 = true := by kernel_rfl
@[simp] theorem sz200 : sizeT Tryz.prog 200 = 1 := by kernel_rfl
@[simp] theorem ag200 : isAggT Tryz.prog 200 = some false := by kernel_rfl
@[simp] theorem zc200 : zcells Tryz.prog 200 = some [(.nilf, false)] := by kernel_rfl
@[simp] theorem zt200 : zeroT Tryz.prog 200 = true := by kernel_rfl
@[simp] theorem sz201 : sizeT Tryz.prog 201 = 1 := by kernel_rfl
@[simp] theorem ag201 : isAggT Tryz.prog 201 = some false := by kernel_rfl
@[simp] theorem zc201 : zcells Tryz.prog 201 = some [(.int .i64 0, false)] := by kernel_rfl
@[simp] theorem zt201 : zeroT Tryz.prog 201 = true := by kernel_rfl
@[simp] theorem sz203 : sizeT Tryz.prog 203 = 1 := by kernel_rfl
@[simp] theorem ag203 : isAggT Tryz.prog 203 = some false := by kernel_rfl
@[simp] theorem zc203 : zcells Tryz.prog 203 = some [(.nilf, false)] := by kernel_rfl
@[simp] theorem zt203 : zeroT Tryz.prog 203 = true := by kernel_rfl
@[simp] theorem sz204 : sizeT Tryz.prog 204 = 1 := by kernel_rfl
@[simp] theorem ag204 : isAggT Tryz.prog 204 = some false := by kernel_rfl
@[simp] theorem zc204 : zcells Tryz.prog 204 = some [(.nilp, false)] := by kernel_rfl
@[simp] theorem zt204 : zeroT Tryz.prog 204 = true := by kernel_rfl
@[simp] theorem sz205 : sizeT Tryz.prog 205 = 1 := by kernel_rfl
@[simp] theorem ag205 : isAggT Tryz.prog 205 = some false := by kernel_rfl
@[simp] theorem zc205 : zcells Tryz.prog 205 = some [(.nilf, false)] := by kernel_rfl
@[simp] theorem zt205 : zeroT Tryz.prog 205 = true := by kernel_rfl
@[simp] theorem sz206 : sizeT Tryz.prog 206 = 1 := by kernel_rfl
@[simp] theorem ag206 : isAggT Tryz.prog 206 = some false := by kernel_rfl
@[simp] theorem zc206 : zcells Tryz.prog 206 = some [(.nilf, false)] := by kernel_rfl
@[simp] theorem zt206 : zeroT Tryz.prog 206 = true := by kernel_rfl
@[simp] theorem sz207 : sizeT Tryz.prog 207 = 1 := by kernel_rfl
@[simp] theorem ag207 : isAggT Tryz.prog 207 = some false := by kernel_rfl
@[simp] theorem zc207 : zcells Tryz.prog 207 = some [(.nilp, false)] := by kernel_rfl
@[simp] theorem zt207 : zeroT Tryz.prog 207 = true := by kernel_rfl
@[simp] theorem sz208 : sizeT Tryz.prog 208 = 1 := by kernel_rfl
@[simp] theorem ag208 : isAggT Tryz.prog 208 = some false := by kernel_rfl
@[simp] theorem zc208 : zcells Tryz.prog 208 = some [(.nilf, false)] := by kernel_rfl
@[simp] theorem zt208 : zeroT Tryz.prog 208 = true := by kernel_rfl
@[simp] theorem sz209 : sizeT Tryz.prog 209 = 1 := by kernel_rfl
@[simp] theorem ag209 : isAggT Tryz.prog 209 = some false := by kernel_rfl
@[simp] theorem zc209 : zcells Tryz.prog 209 = some [(.nilf, false)] := by kernel_rfl
@[simp] theorem zt209 : zeroT Tryz.prog 209 = true := by kernel_rfl
@[simp] theorem sz210 : sizeT Tryz.prog 210 = 20 := by kernel_rfl
@[simp] theorem ag210 : isAggT Tryz.prog 210 = some true := by kernel_rfl
@[simp] theorem zc210 : zcells Tryz.prog 210 = some [(.int .u64 0, false), (.int .u64 0, false), (.int .u64 0, false), (.int .u64 0, false), (.int .u64 0, false), (.int .u64 0, false), (.int .u64 0, false), (.int .u64 0, false), (.int .u64 0, false), (.int .u64 0, false), (.int .u64 0, false), (.int .u64 0, false), (.int .u64 0, false), (.int .u64 0, false), (.int .u64 0, false), (.int .u64 0, false), (.int .u64 0, false), (.int .u64 0, false), (.int .u64 0, false), (.int .u64 0, false)] := by kernel_rfl
@[simp] theorem zt210 : zeroT Tryz.prog 210 = true := by kernel_rfl
@[simp] theorem sz213 : sizeT Tryz.prog 213 = 1 := by kernel_rfl
@[simp] theorem ag213 : isAggT Tryz.prog 213 = some false := by kernel_rfl
@[simp] theorem zc213 : zcells Tryz.prog 213 = some [(.nilf, false)] := by kernel_rfl
@[simp] theorem zt213 : zeroT Tryz.prog 213 = true := by kernel_rfl
@[simp] theorem sz214 : sizeT Tryz.prog 214 = 3 := by kernel_rfl
@[simp] theorem ag214 : isAggT Tryz.prog 214 = some true := by kernel_rfl
@[simp] theorem zt214 : zeroT Tryz.prog 214 = true := by kernel_rfl
@[simp] theorem fa214_0 (x : AVal) : afield Tryz.prog 214 x 0 = ashift 0 x := by kernel_rfl
@[simp] theorem fv214_0 (cs : List AVal) : afieldv Tryz.prog 214 (.agg cs) 0 = cs[0]? := by kernel_rfl
@[simp] theorem fa214_1 (x : AVal) : afield Tryz.prog 214 x 1 = ashift 1 x := by kernel_rfl
@[simp] theorem fv214_1 (cs : List AVal) : afieldv Tryz.prog 214 (.agg cs) 1 = cs[1]? := by kernel_rfl
@[simp] theorem fa214_2 (x : AVal) : afield Tryz.prog 214 x 2 = ashift 2 x := by kernel_rfl
@[simp] theorem sz215 : sizeT Tryz.prog 215 = 3 := by kernel_rfl
@[simp] theorem ag215 : isAggT Tryz.prog 215 = some true := by kernel_rfl
@[simp] theorem zt215 : zeroT Tryz.prog 215 = true := by kernel_rfl
@[simp] theorem fa215_0 (x : AVal) : afield Tryz.prog 215 x 0 = ashift 0 x := by kernel_rfl
@[simp] theorem fv215_0 (cs : List AVal) : afieldv Tryz.prog 215 (.agg cs) 0 = cs[0]? := by kernel_rfl
@[simp] theorem fa215_1 (x : AVal) : afield Tryz.prog 215 x 1 = ashift 1 x := by kernel_rfl
@[simp] theorem fv215_1 (cs : List AVal) : afieldv Tryz.prog 215 (.agg cs) 1 = cs[1]? := by kernel_rfl
@[simp] theorem fa215_2 (x : AVal) : afield Tryz.prog 215 x 2 = ashift 2 x := by kernel_rfl
@[simp] theorem sz216 : sizeT Tryz.prog 216 = 1 := by kernel_rfl
@[simp] theorem ag216 : isAggT Tryz.prog 216 = some false := by kernel_rfl
@[simp] theorem zc216 : zcells Tryz.prog 216 = some [(.nilf, false)] := by kernel_rfl
@[simp] theorem zt216 : zeroT Tryz.prog 216 = true := by kernel_rfl
@[simp] theorem sz218 : sizeT Tryz.prog 218 = 2 := by kernel_rfl
@[simp] theorem ag218 : isAggT Tryz.prog 218 = some true := by kernel_rfl
@[simp] theorem zc218 : zcells Tryz.prog 218 = some [(.int .u8 0, false), (.int .u8 0, false)] := by kernel_rfl
@[simp] theorem zt218 : zeroT Tryz.prog 218 = true := by kernel_rfl
@[simp] theorem fa218_0 (x : AVal) : afield Tryz.prog 218 x 0 = ashift 0 x := by kernel_rfl
@[simp] theorem fv218_0 (cs : List AVal) : afieldv Tryz.prog 218 (.agg cs) 0 = cs[0]? := by kernel_rfl
@[simp] theorem fa218_1 (x : AVal) : afield Tryz.prog 218 x 1 = ashift 1 x := by kernel_rfl
@[simp] theorem fv218_1 (cs : List AVal) : afieldv Tryz.prog 218 (.agg cs) 1 = cs[1]? := by kernel_rfl
@[simp] theorem bd218 (nl : Bool) (ps : List (Nat × AVal)) : abuild Tryz.prog nl 218 ps = afillL [(0, 1), (1, 1)] (if nl then [.int .u8 0, .int .u8 0] else [.int .u8 0, .int .u8 0]) ps := by cases nl <;> kernel_rfl
@[simp] theorem sz219 : sizeT Tryz.prog 219 = 2 := by kernel_rfl
@[simp] theorem ag219 : isAggT Tryz.prog 219 = some true := by kernel_rfl
@[simp] theorem zc219 : zcells Tryz.prog 219 = some [(.int .u8 0, false), (.int .u8 0, false)] := by kernel_rfl
@[simp] theorem zt219 : zeroT Tryz.prog 219 = true := by kernel_rfl
@[simp] theorem fa219_0 (x : AVal) : afield Tryz.prog 219 x 0 = ashift 0 x := by kernel_rfl
@[simp] theorem fv219_0 (cs : List AVal) : afieldv Tryz.prog 219 (.agg cs) 0 = cs[0]? := by kernel_rfl
@[simp] theorem fa219_1 (x : AVal) : afield Tryz.prog 219 x 1 = ashift 1 x := by kernel_rfl
@[simp] theorem fv219_1 (cs : List AVal) : afieldv Tryz.prog 219 (.agg cs) 1 = cs[1]? := by kernel_rfl
@[simp] theorem bd219 (nl : Bool) (ps : List (Nat × AVal)) : abuild Tryz.prog nl 219 ps = afillL [(0, 1), (1, 1)] (if nl then [.int .u8 0, .int .u8 0] else [.int .u8 0, .int .u8 0]) ps := by cases nl <;> kernel_rfl
@[simp] theorem sz220 : sizeT Tryz.prog 220 = 32 := by kernel_rfl
@[simp] theorem ag220 : isAggT Tryz.prog 220 = some true := by kernel_rfl
@[simp] theorem zc220 : zcells Tryz.prog 220 = some [(.int .u8 0, false), (.int .u8 0, false), (.int .u8 0, false), (.int .u8 0, false), (.int .u8 0, false), (.int .u8 0, false), (.int .u8 0, false), (.int .u8 0, false), (.int .u8 0, false), (.int .u8 0, false), (.int .u8 0, false), (.int .u8 0, false), (.int .u8 0, false), (.int .u8 0, false), (.int .u8 0, false), (.int .u8 0, false), (.int .u8 0, false), (.int .u8 0, false), (.int .u8 0, false), (.int .u8 0, false), (.int .u8 0, false), (.int .u8 0, false), (.int .u8 0, false), (.int .u8 0, false), (.int .u8 0, false), (.int .u8 0, false), (.int .u8 0, false), (.int .u8 0, false), (.int .u8 0, false), (.int .u8 0, false), (.int .u8 0, false), (.int .u8 0, false)] := by kernel_rfl
@[simp] theorem zt220 : zeroT Tryz.prog 220 = true := by kernel_rfl
@[simp] theorem sz221 : sizeT Tryz.prog 221 = 1 := by kernel_rfl
@[simp] theorem ag221 : isAggT Tryz.prog 221 = some false := by kernel_rfl
@[simp] theorem zc221 : zcells Tryz.prog 221 = some [(.nilf, false)] := by kernel_rfl
@[simp] theorem zt221 : zeroT Tryz.prog 221 = true := by kernel_rfl
@[simp] theorem sz222 : sizeT Tryz.prog 222 = 1 := by kernel_rfl
@[simp] theorem ag222 : isAggT Tryz.prog 222 = some false := by kernel_rfl
@[simp] theorem zc222 : zcells Tryz.prog 222 = some [(.nilf, false)] := by kernel_rfl
@[simp] theorem zt222 : zeroT Tryz.prog 222 = true := by kernel_rfl
@[simp] theorem sz223 : sizeT Tryz.prog 223 = 1 := by kernel_rfl
@[simp] theorem ag223 : isAggT Tryz.prog 223 = some false := by kernel_rfl
@[simp] theorem zc223 : zcells Tryz.prog 223 = some [(.nilf, false)] := by kernel_rfl
@[simp] theorem zt223 : zeroT Tryz.prog 223 = true := by kernel_rfl
@[simp] theorem sz224 : sizeT Tryz.prog 224 = 1 := by kernel_rfl
@[simp] theorem ag224 : isAggT Tryz.prog 224 = some false := by kernel_rfl
@[simp] theorem zc224 : zcells Tryz.prog 224 = some [(.nilp, false)] := by kernel_rfl
@[simp] theorem zt224 : zeroT Tryz.prog 224 = true := by kernel_rfl
@[simp] theorem sz225 : sizeT Tryz.prog 225 = 1 := by kernel_rfl
@[simp] theorem ag225 : isAggT Tryz.prog 225 = some true := by kernel_rfl
@[simp] theorem zc225 : zcells Tryz.prog 225 = some [(.str ByteArray.empty, false)] := by kernel_rfl
@[simp] theorem zt225 : zeroT Tryz.prog 225 = true := by kernel_rfl
@[simp] theorem fa225_0 (x : AVal) : afield Tryz.prog 225 x 0 = ashift 0 x := by kernel_rfl
@[simp] theorem fv225_0 (cs : List AVal) : afieldv Tryz.prog 225 (.agg cs) 0 = cs[0]? := by kernel_rfl
@[simp] theorem bd225 (nl : Bool) (ps : List (Nat × AVal)) : abuild Tryz.prog nl 225 ps = afillL [(0, 1)] (if nl then [.str ByteArray.empty] else [.str ByteArray.empty]) ps := by cases nl <;> kernel_rfl
@[simp] theorem sz226 : sizeT Tryz.prog 226 = 1 := by kernel_rfl
@[simp] theorem ag226 : isAggT Tryz.prog 226 = some true := by kernel_rfl
@[simp] theorem zc226 : zcells Tryz.prog 226 = some [(.str ByteArray.empty, false)] := by kernel_rfl
@[simp] theorem zt226 : zeroT Tryz.prog 226 = true := by kernel_rfl
@[simp] theorem fa226_0 (x : AVal) : afield Tryz.prog 226 x 0 = ashift 0 x := by kernel_rfl
@[simp] theorem fv226_0 (cs : List AVal) : afieldv Tryz.prog 226 (.agg cs) 0 = cs[0]? := by kernel_rfl
@[simp] theorem bd226 (nl : Bool) (ps : List (Nat × AVal)) : abuild Tryz.prog nl 226 ps = afillL [(0, 1)] (if nl then [.str ByteArray.empty] else [.str ByteArray.empty]) ps := by cases nl <;> kernel_rfl
@[simp] theorem sz227 : sizeT Tryz.prog 227 = 32 := by kernel_rfl
@[simp] theorem ag227 : isAggT Tryz.prog 227 = some true := by kernel_rfl
@[simp] theorem zc227 : zcells Tryz.prog 227 = some [(.int .u8 0, false), (.int .u8 0, false), (.int .u8 0, false), (.int .u8 0, false), (.int .u8 0, false), (.int .u8 0, false), (.int .u8 0, false), (.int .u8 0, false), (.int .u8 0, false), (.int .u8 0, false), (.int .u8 0, false), (.int .u8 0, false), (.int .u8 0, false), (.int .u8 0, false), (.int .u8 0, false), (.int .u8 0, false), (.int .u8 0, false), (.int .u8 0, false), (.int .u8 0, false), (.int .u8 0, false), (.int .u8 0, false), (.int .u8 0, false), (.int .u8 0, false), (.int .u8 0, false), (.int .u8 0, false), (.int .u8 0, false), (.int .u8 0, false), (.int .u8 0, false), (.int .u8 0, false), (.int .u8 0, false), (.int .u8 0, false), (.int .u8 0, false)] := by kernel_rfl
@[simp] theorem zt227 : zeroT Tryz.prog 227 = true := by kernel_rfl
@[simp] theorem sz229 : sizeT Tryz.prog 229 = 4 := by kernel_rfl
@[simp] theorem ag229 : isAggT Tryz.prog 229 = some true := by kernel_rfl
@[simp] theorem zt229 : zeroT Tryz.prog 229 = true := by kernel_rfl
@[simp] theorem sz230 : sizeT Tryz.prog 230 = 4 := by kernel_rfl
@[simp] theorem ag230 : isAggT Tryz.prog 230 = some true := by kernel_rfl
@[simp] theorem zt230 : zeroT Tryz.prog 230 = true := by kernel_rfl
@[simp] theorem sz231 : sizeT Tryz.prog 231 = 0 := by kernel_rfl
@[simp] theorem ag231 : isAggT Tryz.prog 231 = some true := by kernel_rfl
@[simp] theorem zc231 : zcells Tryz.prog 231 = some [] := by kernel_rfl
@[simp] theorem zt231 : zeroT Tryz.prog 231 = true := by kernel_rfl
@[simp] theorem sz232 : sizeT Tryz.prog 232 = 0 := by kernel_rfl
@[simp] theorem ag232 : isAggT Tryz.prog 232 = some true := by kernel_rfl
@[simp] theorem zt232 : zeroT Tryz.prog 232 = true := by kernel_rfl
@[simp] theorem sz233 : sizeT Tryz.prog 233 = 0 := by kernel_rfl
@[simp] theorem ag233 : isAggT Tryz.prog 233 = some true := by kernel_rfl
@[simp] theorem zt233 : zeroT Tryz.prog 233 = true := by kernel_rfl
@[simp] theorem sz234 : sizeT Tryz.prog 234 = 1 := by kernel_rfl
@[simp] theorem ag234 : isAggT Tryz.prog 234 = some false := by kernel_rfl
@[simp] theorem zc234 : zcells Tryz.prog 234 = some [(.int .u8 0, false)] := by kernel_rfl
@[simp] theorem zt234 : zeroT Tryz.prog 234 = true := by kernel_rfl
@[simp] theorem sz235 : sizeT Tryz.prog 235 = 1 := by kernel_rfl
@[simp] theorem ag235 : isAggT Tryz.prog 235 = some false := by kernel_rfl
@[simp] theorem zc235 : zcells Tryz.prog 235 = some [(.int .u8 0, false)] := by kernel_rfl
@[simp] theorem zt235 : zeroT Tryz.prog 235 = true := by kernel_rfl
@[simp] theorem sz236 : sizeT Tryz.prog 236 = 1 := by kernel_rfl
@[simp] theorem ag236 : isAggT Tryz.prog 236 = some false := by kernel_rfl
@[simp] theorem zc236 : zcells Tryz.prog 236 = some [(.nilf, false)] := by kernel_rfl
@[simp] theorem zt236 : zeroT Tryz.prog 236 = true := by kernel_rfl
@[simp] theorem sz237 : sizeT Tryz.prog 237 = 1 := by kernel_rfl
@[simp] theorem ag237 : isAggT Tryz.prog 237 = some false := by kernel_rfl
@[simp] theorem zc237 : zcells Tryz.prog 237 = some [(.int .i32 0, false)] := by kernel_rfl
@[simp] theorem zt237 : zeroT Tryz.prog 237 = true := by kernel_rfl
@[simp] theorem sz238 : sizeT Tryz.prog 238 = 1 := by kernel_rfl
@[simp] theorem ag238 : isAggT Tryz.prog 238 = some false := by kernel_rfl
@[simp] theorem zc238 : zcells Tryz.prog 238 = some [(.int .i32 0, false)] := by kernel_rfl
@[simp] theorem zt238 : zeroT Tryz.prog 238 = true := by kernel_rfl
@[simp] theorem sz239 : sizeT Tryz.prog 239 = 11 := by kernel_rfl
@[simp] theorem ag239 : isAggT Tryz.prog 239 = some true := by kernel_rfl
@[simp] theorem zc239 : zcells Tryz.prog 239 = some [(.int .u64 0, false), (.int .u64 0, false), (.int .u32 0, false), (.int .u8 0, false), (.int .u8 0, false), (.int .u8 0, false), (.int .u8 0, false), (.nilf, false), (.nilp, false), (.int .i32 0, false), (.int .i32 0, false)] := by kernel_rfl
@[simp] theorem zt239 : zeroT Tryz.prog 239 = true := by kernel_rfl
@[simp] theorem fa239_0 (x : AVal) : afield Tryz.prog 239 x 0 = ashift 0 x := by kernel_rfl
@[simp] theorem fv239_0 (cs : List AVal) : afieldv Tryz.prog 239 (.agg cs) 0 = cs[0]? := by kernel_rfl
@[simp] theorem fa239_1 (x : AVal) : afield Tryz.prog 239 x 1 = ashift 1 x := by kernel_rfl
@[simp] theorem fv239_1 (cs : List AVal) : afieldv Tryz.prog 239 (.agg cs) 1 = cs[1]? := by kernel_rfl
@[simp] theorem fa239_2 (x : AVal) : afield Tryz.prog 239 x 2 = ashift 2 x := by kernel_rfl
@[simp] theorem fv239_2 (cs : List AVal) : afieldv Tryz.prog 239 (.agg cs) 2 = cs[2]? := by kernel_rfl
@[simp] theorem fa239_3 (x : AVal) : afield Tryz.prog 239 x 3 = ashift 3 x := by kernel_rfl
@[simp] theorem fv239_3 (cs : List AVal) : afieldv Tryz.prog 239 (.agg cs) 3 = cs[3]? := by kernel_rfl
@[simp] theorem fa239_4 (x : AVal) : afield Tryz.prog 239 x 4 = ashift 4 x := by kernel_rfl
@[simp] theorem fv239_4 (cs : List AVal) : afieldv Tryz.prog 239 (.agg cs) 4 = cs[4]? := by kernel_rfl
@[simp] theorem fa239_5 (x : AVal) : afield Tryz.prog 239 x 5 = ashift 5 x := by kernel_rfl
@[simp] theorem fv239_5 (cs : List AVal) : afieldv Tryz.prog 239 (.agg cs) 5 = cs[5]? := by kernel_rfl
@[simp] theorem fa239_6 (x : AVal) : afield Tryz.prog 239 x 6 = ashift 6 x := by kernel_rfl
@[simp] theorem fv239_6 (cs : List AVal) : afieldv Tryz.prog 239 (.agg cs) 6 = cs[6]? := by kernel_rfl
@[simp] theorem fa239_7 (x : AVal) : afield Tryz.prog 239 x 7 = ashift 7 x := by kernel_rfl
@[simp] theorem fv239_7 (cs : List AVal) : afieldv Tryz.prog 239 (.agg cs) 7 = cs[7]? := by kernel_rfl
@[simp] theorem fa239_8 (x : AVal) : afield Tryz.prog 239 x 8 = ashift 8 x := by kernel_rfl
@[simp] theorem fv239_8 (cs : List AVal) : afieldv Tryz.prog 239 (.agg cs) 8 = cs[8]? := by kernel_rfl
@[simp] theorem fa239_9 (x : AVal) : afield Tryz.prog 239 x 9 = ashift 9 x := by kernel_rfl
@[simp] theorem fv239_9 (cs : List AVal) : afieldv Tryz.prog 239 (.agg cs) 9 = cs[9]? := by kernel_rfl
@[simp] theorem fa239_10 (x : AVal) : afield Tryz.prog 239 x 10 = ashift 10 x := by kernel_rfl
@[simp] theorem fv239_10 (cs : List AVal) : afieldv Tryz.prog 239 (.agg cs) 10 = cs[10]? := by kernel_rfl
@[simp] theorem bd239 (nl : Bool) (ps : List (Nat × AVal)) : abuild Tryz.prog nl 239 ps = afillL [(0, 1), (1, 1), (2, 1), (3, 1), (4, 1), (5, 1), (6, 1), (7, 1), (8, 1), (9, 1), (10, 1)] (if nl then [.int .u64 0, .int .u64 0, .int .u32 0, .int .u8 0, .int .u8 0, .int .u8 0, .int .u8 0, .nilf, .nilp, .int .i32 0, .int .i32 0] else [.int .u64 0, .int .u64 0, .int .u32 0, .int .u8 0, .int .u8 0, .int .u8 0, .int .u8 0, .nilf, .nilp, .int .i32 0, .int .i32 0]) ps := by cases nl <;> kernel_rfl
@[simp] theorem sz240 : sizeT Tryz.prog 240 = 11 := by kernel_rfl
@[simp] theorem ag240 : isAggT Tryz.prog 240 = some true := by kernel_rfl
@[simp] theorem zc240 : zcells Tryz.prog 240 = some [(.int .u64 0, false), (.int .u64 0, false), (.int .u32 0, false), (.int .u8 0, false), (.int .u8 0, false), (.int .u8 0, false), (.int .u8 0, false), (.nilf, false), (.nilp, false), (.int .i32 0, false), (.int .i32 0, false)] := by kernel_rfl
@[simp] theorem zt240 : zeroT Tryz.prog 240 = true := by kernel_rfl
@[simp] theorem fa240_0 (x : AVal) : afield Tryz.prog 240 x 0 = ashift 0 x := by kernel_rfl
@[simp] theorem fv240_0 (cs : List AVal) : afieldv Tryz.prog 240 (.agg cs) 0 = cs[0]? := by kernel_rfl
@[simp] theorem fa240_1 (x : AVal) : afield Tryz.prog 240 x 1 = ashift 1 x := by kernel_rfl
@[simp] theorem fv240_1 (cs : List AVal) : afieldv Tryz.prog 240 (.agg cs) 1 = cs[1]? := by kernel_rfl
@[simp] theorem fa240_2 (x : AVal) : afield Tryz.prog 240 x 2 = ashift 2 x := by kernel_rfl
@[simp] theorem fv240_2 (cs : List AVal) : afieldv Tryz.prog 240 (.agg cs) 2 = cs[2]? := by kernel_rfl
@[simp] theorem fa240_3 (x : AVal) : afield Tryz.prog 240 x 3 = ashift 3 x := by kernel_rfl
@[simp] theorem fv240_3 (cs : List AVal) : afieldv Tryz.prog 240 (.agg cs) 3 = cs[3]? := by kernel_rfl
@[simp] theorem fa240_4 (x : AVal) : afield Tryz.prog 240 x 4 = ashift 4 x := by kernel_rfl
@[simp] theorem fv240_4 (cs : List AVal) : afieldv Tryz.prog 240 (.agg cs) 4 = cs[4]? := by kernel_rfl
@[simp] theorem fa240_5 (x : AVal) : afield Tryz.prog 240 x 5 = ashift 5 x := by kernel_rfl
@[simp] theorem fv240_5 (cs : List AVal) : afieldv Tryz.prog 240 (.agg cs) 5 = cs[5]? := by kernel_rfl
@[simp] theorem fa240_6 (x : AVal) : afield Tryz.prog 240 x 6 = ashift 6 x := by kernel_rfl
@[simp] theorem fv240_6 (cs : List AVal) : afieldv Tryz.prog 240 (.agg cs) 6 = cs[6]? := by kernel_rfl
@[simp] theorem fa240_7 (x : AVal) : afield Tryz.prog 240 x 7 = ashift 7 x := by kernel_rfl
@[simp] theorem fv240_7 (cs : List AVal) : afieldv Tryz.prog 240 (.agg cs) 7 = cs[7]? := by kernel_rfl
@[simp] theorem fa240_8 (x : AVal) : afield Tryz.prog 240 x 8 = ashift 8 x := by kernel_rfl
@[simp] theorem fv240_8 (cs : List AVal) : afieldv Tryz.prog 240 (.agg cs) 8 = cs[8]? := by kernel_rfl
@[simp] theorem fa240_9 (x : AVal) : afield Tryz.prog 240 x 9 = ashift 9 x := by kernel_rfl
@[simp] theorem fv240_9 (cs : List AVal) : afieldv Tryz.prog 240 (.agg cs) 9 = cs[9]? := by kernel_rfl
@[simp] theorem fa240_10 (x : AVal) : afield Tryz.prog 240 x 10 = ashift 10 x := by kernel_rfl
@[simp] theorem fv240_10 (cs : List AVal) : afieldv Tryz.prog 240 (.agg cs) 10 = cs[10]? := by kernel_rfl
@[simp] theorem bd240 (nl : Bool) (ps : List (Nat × AVal)) : abuild Tryz.prog nl 240 ps = afillL [(0, 1), (1, 1), (2, 1), (3, 1), (4, 1), (5, 1), (6, 1), (7, 1), (8, 1), (9, 1), (10, 1)] (if nl then [.int .u64 0, .int .u64 0, .int .u32 0, .int .u8 0, .int .u8 0, .int .u8 0, .int .u8 0, .nilf, .nilp, .int .i32 0, .int .i32 0] else [.int .u64 0, .int .u64 0, .int .u32 0, .int .u8 0, .int .u8 0, .int .u8 0, .int .u8 0, .nilf, .nilp, .int .i32 0, .int .i32 0]) ps := by cases nl <;> kernel_rfl
end Go.Proofs.YtkpfkadjmijmlaaGreatDoor.M
/- The machine for this program: what each kind of function is, the contracts from outside. -/
namespace Go.Proofs.YtkpfkadjmijmlaaGreatDoor.M
open Go.Proofs
/-- Functions that write their arguments, or return what they made. -/
def openFs : List FuncId := [34, 33, 38, 32, 36, 35, 75, 31, 50, 57, 83, 84, 16, 44, 55, 40]
/-- Functions that write their arguments and make variables of their own. -/
def tidyFs : List FuncId := [5, 7, 39, 6]
/-- Functions that change nothing, but look at the heap. -/
def stillFs : List FuncId := [88, 93, 51, 48, 20]
/-- Functions with arrays that change. -/
def muFs : List (FuncId × List TypeId) := [(31, [26]), (5, [26]), (6, [30]), (16, [30]), (44, [30]), (10, [30]), (45, [22]), (12, [26]), (13, [22]), (48, [26])]
def nameExt : List AVal → Option AVal
  | [.str s] => some (.bool (X.nameB s))
  | _ => none
def repeatExt : List AVal → Option AVal
  | [.str s, .int .i64 n] => if 0 ≤ n ∧ n < 1000 ∧ s.size < 1000 then some (.str ⟨((List.replicate n.toNat s.data.toList).flatten).toArray⟩) else none
  | _ => none
def moreExt1 : CallF := fun _ _ _ _ _ => none
def wordZ : List AVal := [.int .i64 0, .int .i64 0, .str ByteArray.empty]
def moreExt2 : CallF := orExt (rowExt 83 decI encIA (fun xs => xs.mergeSort (fun a b => decide (a ≤ b))) (.tup []) (fun _ _ => .tup [])) (orExt (rowExt 84 decI encIA List.reverse (.tup []) (fun _ _ => .tup [])) (orExt (emptyExt 56) (orExt (orExt (emptyExt 48) (copyExt 48 4)) (delExt 40 3 wordZ))))
def moreExt : CallF := orExt moreExt1 moreExt2
/-- Functions whose answer hangs on one array. -/
def ftFs : List FuncId := [48]
noncomputable def K : Cfg := { P := Tryz.prog, ft := fun f => ftFs.contains f, pure := fun f => !(openFs.contains f || tidyFs.contains f), tidy := fun f => tidyFs.contains f, mu := fun f => (muFs.lookup f).getD [], val := fun f => !stillFs.contains f, ext := orExt (pureExt 87 nameExt) (orExt (pureExt 52 nameExt) (orExt (pureExt 37 repeatExt) moreExt)) }
@[simp] theorem K_P : K.P = Tryz.prog := rfl
@[simp] theorem K_ft (f : FuncId) : K.ft f = [48].contains f := rfl
theorem ext_R (f : FuncId) (args : List AVal) (ro nx : Nat) (hp : Heap) (a : AVal) (hv : K.vl f = true) (hi : idsLts 0 args = true) (h : K.ext f args 0 0 [] = some ⟨a, false, 0, []⟩) (ha : a.idsLt 0 = true) : R K f args ro nx hp = some ⟨a, false, nx, hp⟩ := by
  have hp0 := vl_pure hv
  have hl : low K f 0 0 = 0 := by unfold low; rw [if_pos hp0]
  rw [R_eq]
  unfold vlc Fin core
  rw [if_pos hv, if_pos hi]
  dsimp only
  rw [if_pos hp0, hl, h]
  simp [ha]
@[simp] theorem isName_R (s : ByteArray) (ro nx : Nat) (hp : Heap) : R K 87 [.str s] ro nx hp = some ⟨.bool (X.nameB s), false, nx, hp⟩ := ext_R _ _ ro nx hp _ rfl (by simp) rfl (by simp)
@[simp] theorem name_R (s : ByteArray) (ro nx : Nat) (hp : Heap) : R K 52 [.str s] ro nx hp = some ⟨.bool (X.nameB s), false, nx, hp⟩ := ext_R _ _ ro nx hp _ rfl (by simp) rfl (by simp)
theorem repeat_R (s : ByteArray) (n : Int) (h : 0 ≤ n ∧ n < 1000 ∧ s.size < 1000) (ro nx : Nat) (hp : Heap) : ∃ t, R K 37 [.str s, .int .i64 n] ro nx hp = some ⟨.str t, false, nx, hp⟩ := by
  refine ⟨_, ext_R _ _ ro nx hp (.str ⟨((List.replicate n.toNat s.data.toList).flatten).toArray⟩) rfl (by simp) ?_ (by simp)⟩
  show orExt (pureExt 87 nameExt) (orExt (pureExt 52 nameExt) (orExt (pureExt 37 repeatExt) moreExt)) 37 [.str s, .int .i64 n] 0 0 [] = _
  simp [orExt, pureExt, repeatExt, if_pos h]
end Go.Proofs.YtkpfkadjmijmlaaGreatDoor.M
/- Walks by hand: slices.Clone of nothing; slices.Delete of words. -/
namespace Go.Proofs.YtkpfkadjmijmlaaGreatDoor.M
open Go.Proofs Go.RowKit
set_option linter.unusedVariables false
set_option linter.unusedSimpArgs false
set_option maxRecDepth 100000
set_option maxHeartbeats 1000000
theorem append_none (t e : TypeId) (i : TypeInfo) (h1 : (Tryz.prog).underlying t = some (.slice e)) (h2 : (Tryz.prog).info? e = some i) (b : Nat) (ad : Addr) (m : Nat) (ty : TypeId) (W : World) : (Builtin.append_ #[t, t] ty #[.slice (some ⟨b, 0, none⟩) 0 0, .slice (some ad) 0 m]).run Tryz.prog W = .ok (.slice (some ⟨b, 0, none⟩) 0 0) W := by
  have := run_append_room_cells (P := Tryz.prog) W t ty e i h1 h2 b 0 0 0 ad 0 m [] (by simp) (fun j u h => by simp at h) (fun u h => by cases h) (Nat.le_refl _) (fun j h => by simp at h) (fun j h => by simp at h)
  rw [this]
  rfl
theorem cloneI_calls (A : Option Addr) (cap : Nat) (W : World) : Calls Tryz.prog 56 #[.slice A 0 cap] W fun e w' => (∃ A', e = .returned (.slice A' 0 0)) ∧ Below W.heap.size W w' := by
  cases A with
  | none =>
    go_enter Tryz.func56, Tryz.ntmps56
    go_wp2_with (rw [Lib.run_eql_slice_nil (P := Tryz.prog) _ _ _ _ _ _ _ _ Tryz.underlying22])
    go_ret
    exact ⟨⟨_, rfl⟩, Below.refl _ _⟩
  | some ad =>
    obtain ⟨i, hi⟩ : ∃ i, (Tryz.prog).info? 3 = some i := ⟨_, rfl⟩
    have ha := append_none 22 3 i Tryz.underlying22 hi
    clear hi
    go_enter Tryz.func56, Tryz.ntmps56
    go_wp2_with (first | rw [Lib.run_eql_slice_nil (P := Tryz.prog) _ _ _ _ _ _ _ _ Tryz.underlying22] | rw [ha])
    go_ret
    exact ⟨⟨_, rfl⟩, (Below.refl _ W).alloc (Nat.le_refl _) _⟩
theorem cloneE_calls (A : Option Addr) (cap : Nat) (W : World) : Calls Tryz.prog 48 #[.slice A 0 cap] W fun e w' => (∃ A', e = .returned (.slice A' 0 0)) ∧ Below W.heap.size W w' := by
  cases A with
  | none =>
    go_enter Tryz.func48, Tryz.ntmps48
    go_wp2_with (rw [Lib.run_eql_slice_nil (P := Tryz.prog) _ _ _ _ _ _ _ _ Tryz.underlying26])
    go_ret
    exact ⟨⟨_, rfl⟩, Below.refl _ _⟩
  | some ad =>
    obtain ⟨i, hi⟩ : ∃ i, (Tryz.prog).info? 28 = some i := ⟨_, rfl⟩
    have ha := append_none 26 28 i Tryz.underlying26 hi
    clear hi
    go_enter Tryz.func48, Tryz.ntmps48
    go_wp2_with (first | rw [Lib.run_eql_slice_nil (P := Tryz.prog) _ _ _ _ _ _ _ _ Tryz.underlying26] | rw [ha])
    go_ret
    exact ⟨⟨_, rfl⟩, (Below.refl _ W).alloc (Nat.le_refl _) _⟩
theorem clear_one (t e : TypeId) (ht : (Tryz.prog).underlying t = some (.slice e)) (z : Value) (hv : ∀ w, (zeroValue e).run Tryz.prog w = .ok z w) (zs : List Value) (hz : (Builtin.zeroCells z.cells 1).toList = zs) (h1 : ∀ u ∈ zs, u.oneCell' = true) (b o c m : Nat) (hm : m = 1) (W : World) (hc : ∀ k, k < zs.length → (W.cell? ⟨b, o + k, none⟩).isSome = true) (hf : ∀ k, k < zs.length → W.frozen? ⟨b, o + k, none⟩ = false) (ty : TypeId) :
    (Builtin.clear_ #[t] ty #[.slice (some ⟨b, o, none⟩) m c]).run Tryz.prog W = .ok (.tuple #[]) (W.setCells b o zs) := by
  subst hm
  have hst := run_storeCells_cells (P := Tryz.prog) b o zs 0 W (by simpa using hc) (by simpa using hf) h1
  simp only [Nat.add_zero] at hst
  simp [Builtin.clear_, run_underlying ht, hv, hz, hst]
theorem zero_word : (Builtin.zeroCells (Value.agg #[.int .i64 0, .int .i64 0, .string ByteArray.empty]).cells 1).toList = [.int .i64 0, .int .i64 0, .string ByteArray.empty] := by
  have e : (Value.agg #[Value.int .i64 0, .int .i64 0, .string ByteArray.empty]).cells = #[.int .i64 0, .int .i64 0, .string ByteArray.empty] := rfl
  rw [e]
  simp [Builtin.zeroCells, Array.toList_range, List.range_succ]
theorem delW_calls (blk cap n i : Nat) (us : List Value) (w : World) (hl : us.length = n * 3) (hu : ∀ k u, us[k]? = some u → w.cell? ⟨blk, k, none⟩ = some u) (hf : ∀ k, k < us.length → w.frozen? ⟨blk, k, none⟩ = false) (h1 : ∀ u ∈ us, u.oneCell' = true) (hj : i + 1 ≤ n) (hcap : n ≤ cap) :
    Calls Tryz.prog 40 #[.slice (some ⟨blk, 0, none⟩) n cap, .int .i64 i, .int .i64 ((i : Int) + 1)] w fun e w' => e = .returned (.slice (some ⟨blk, 0, none⟩) (i + (n - (i + 1))) cap) ∧ w' = (w.drew.setCells blk (i * 3) (us.drop ((i + 1) * 3))).setCells blk ((i + (n - (i + 1))) * 3) [.int .i64 0, .int .i64 0, .string ByteArray.empty] := by
  have mixed : (Tryz.prog).follows Departure.mixedOrders = true := by kernel_rfl
  obtain ⟨i0, hi0, hz1⟩ : ∃ i0, (Tryz.prog).info? 53 = some i0 ∧ i0.size = 3 := ⟨_, rfl, rfl⟩
  obtain ⟨news, hnews⟩ : ∃ news, news = us.drop ((i + 1) * 3) := ⟨_, rfl⟩
  have hlen : news.length = (n - (i + 1)) * 3 := by rw [hnews, List.length_drop, hl, Nat.sub_mul]
  obtain ⟨A, hA, hsrc⟩ : ∃ A : Addr, (if cap = i + 1 then some (⟨blk, 0, none⟩ : Addr) else some ⟨blk, (i + 1) * 3, none⟩) = some A ∧ Hid (∀ t u, news[t]? = some u → w.drew.cell? (A.add t) = some u) := by
    by_cases h : cap = i + 1
    · refine ⟨⟨blk, 0, none⟩, by simp [h], fun t u hu => ?_⟩
      have h0 : news.length = 0 := by rw [hlen]; omega
      rw [List.length_eq_zero_iff.1 h0] at hu
      simp at hu
    · refine ⟨⟨blk, (i + 1) * 3, none⟩, by simp [h], fun t u hq => ?_⟩
      rw [hnews, List.getElem?_drop] at hq
      rw [Addr.add_lit]
      exact hu _ _ hq
  have s1 : Hid (news.length = (n - (i + 1)) * 3) := hlen
  have s2 : Hid (∀ u ∈ news, u.oneCell' = true) := by
    intro u hq
    rw [hnews] at hq
    exact h1 u (List.mem_of_mem_drop hq)
  have hex : ∀ k, k < us.length → (w.cell? ⟨blk, k, none⟩).isSome = true := fun k hk => by rw [hu k _ (List.getElem?_eq_getElem hk)]; rfl
  have s3 : Hid (∀ t, t < news.length → (w.drew.cell? ⟨blk, 0 + i * 3 + t, none⟩).isSome = true ∧ w.drew.frozen? ⟨blk, 0 + i * 3 + t, none⟩ = false) := by
    intro t ht
    rw [hlen] at ht
    have hk : 0 + i * 3 + t < us.length := by rw [hl]; omega
    exact ⟨hex _ hk, hf _ hk⟩
  obtain ⟨W1, hW1⟩ : ∃ W1, W1 = w.drew.setCells blk (0 + i * 3) news := ⟨_, rfl⟩
  have hcl : ∀ ty, (Builtin.clear_ #[30] ty #[.slice (some ⟨blk, (i + (n - (i + 1))) * 3, none⟩) (n - (i + (n - (i + 1)))) (cap - (i + (n - (i + 1))))]).run Tryz.prog W1 = .ok (.tuple #[]) (W1.setCells blk ((i + (n - (i + 1))) * 3) [.int .i64 0, .int .i64 0, .string ByteArray.empty]) := by
    intro ty
    refine clear_one 30 53 Tryz.underlying30 (.agg #[.int .i64 0, .int .i64 0, .string ByteArray.empty]) (fun w => by first | rfl | kernel_rfl) _ zero_word (by intro u hu; simp at hu; rcases hu with rfl | rfl <;> rfl) blk _ _ _ (by omega) W1 (fun k hk => ?_) (fun k hk => ?_) ty
    · have hk' : (i + (n - (i + 1))) * 3 + k < us.length := by simp at hk; rw [hl]; omega
      rw [hW1]
      obtain ⟨u, hu'⟩ := cell_setCells_ex blk (0 + i * 3) news w.drew (b' := blk) (o := (i + (n - (i + 1))) * 3 + k) (hu _ _ (List.getElem?_eq_getElem hk'))
      rw [hu']; rfl
    · have hk' : (i + (n - (i + 1))) * 3 + k < us.length := by simp at hk; rw [hl]; omega
      rw [hW1, World.frozen?_setCells]
      exact hf _ hk'
  have hW : Hid (W1 = w.drew.setCells blk (0 + i * 3) news) := hW1
  have X : Aside (news = us.drop ((i + 1) * 3)) := hnews
  have hic : i ≤ cap := by omega
  have h01 : (0 : Int) ≤ (i : Int) + 1 := by omega
  have h02 : (i : Int) + 1 ≤ n := by omega
  clear hW1 hnews hlen hu hf h1 hex
  go_enter Tryz.func40, Tryz.ntmps40
  go_wp2_with fail
  go_region_law_o (refine step_append_room rfl (.tmp 22) (.tmp 25) 30 rfl 53 i0 3 Tryz.underlying30 hi0 hz1 blk 0 i cap (by simp [Act.eval, Act.put]) A (n - (i + 1)) (cap - (i + 1)) news (by simp [Act.eval, Act.put]) s1.out hsrc.out s2.out (by omega) s3.out ?_; rw [← hW.out])
  go_wp2
  go_ret
  refine ⟨rfl, ?_⟩
  rw [← X.out, hW.out, Nat.zero_add]
theorem wordZ_rv (C : Cx) : ∀ (k : Nat) x u, wordZ[k]? = some x → [Value.int .i64 0, .int .i64 0, .string ByteArray.empty][k]? = some u → RV C x u := by
  intro k x u h1 h2
  match k with
  | 0 => cases h1; cases h2; exact .int _ _
  | 1 => cases h1; cases h2; exact .int _ _
  | 2 => cases h1; cases h2; exact .str _
  | k + 3 => simp [wordZ] at h1
theorem del_good : GoodCall Tryz.prog (delExt 40 3 wordZ) := by
  intro f args ro nx hp r h C B F w0 vs hnx hW hl hrv
  unfold delExt at h
  split at h
  rotate_left
  · cases h
  rename_i e
  subst e
  subst hnx
  split at h
  rotate_left
  · cases h
  rename_i id n s iI jI
  split at h
  rotate_left
  · cases h
  rename_i cs hg
  split at h
  rotate_left
  · cases h
  rename_i hcnd
  obtain ⟨c1, rfl, c2, rfl, c3, c4, c5⟩ := hcnd
  cases h
  obtain ⟨i, rfl⟩ : ∃ i : Nat, iI = i := ⟨iI.toNat, by omega⟩
  simp only [Int.toNat_natCast]
  match vs, hl with
  | [v, vi, vj], _ =>
    have hv := hrv 0 _ v rfl rfl
    have hvi := (hrv 1 _ vi rfl rfl).int_inv
    have hvj := (hrv 2 _ vj rfl rfl).int_inv
    subst hvi hvj
    obtain ⟨vb, ty, hblk, hsz, hcells⟩ := hW.heap.blk id cs hg
    obtain ⟨cap, rfl, hid, hcap, hx⟩ := hv.sl_inv
    obtain ⟨us, hus⟩ : ∃ us, us = vb.toList.take (n * 3) := ⟨_, rfl⟩
    have hul : us.length = n * 3 := by rw [hus, List.length_take, Array.length_toList]; omega
    have hget : ∀ k, k < n * 3 → us[k]? = vb[k]? := fun k hk => by rw [hus, List.getElem?_take_of_lt hk, Array.getElem?_toList]
    have hrvs : ∀ (k : Nat) c u, cs[k]? = some c → us[k]? = some u → c.1.one = true ∧ RV C c.1 u := by
      intro k c u hc hu
      have hk := (List.getElem?_eq_some_iff.1 hc).1
      obtain ⟨g1, v, g2, g3⟩ := hcells k c hc
      rw [hget k (by omega), g2] at hu
      cases hu
      exact ⟨g1, g3⟩
    have hD := delW_calls (C.ι id) cap n i us C.w hul (fun k u hu => by
      have hk := (List.getElem?_eq_some_iff.1 hu).1
      rw [hget k (by omega)] at hu
      simp [World.cell?, hblk, hu]) (fun k hk => by simp [World.frozen?, hblk]) (fun u hu => by
      obtain ⟨k, hk⟩ := List.getElem?_of_mem hu
      have hlt := (List.getElem?_eq_some_iff.1 hk).1
      obtain ⟨g1, g2⟩ := hrvs k _ u (List.getElem?_eq_getElem (by omega)) hk
      exact g2.one_cell g1) (by omega) hcap
    refine ans_stores hW (f := 40) Tryz.func40 rfl (by decide) hg ((cs.take (3 * i)).map (·.1) ++ (cs.drop (3 * (i + 1))).map (·.1) ++ wordZ) (us.take (3 * i) ++ us.drop (3 * (i + 1)) ++ [.int .i64 0, .int .i64 0, .string ByteArray.empty]) ?_ ?_ ?_ ?_ (Calls.mono hD fun e w' he => ?_)
    · simp [wordZ, hul, c4]; omega
    · simp [wordZ, c4]; omega
    · intro x hx'
      simp only [List.mem_append] at hx'
      rcases hx' with (hx' | hx') | hx'
      · obtain ⟨c, hc, rfl⟩ := List.mem_map.1 hx'
        obtain ⟨k, hk⟩ := List.getElem?_of_mem (List.mem_of_mem_take hc)
        have hlt := (List.getElem?_eq_some_iff.1 hk).1
        exact (hrvs k c _ hk (List.getElem?_eq_getElem (by omega))).1
      · obtain ⟨c, hc, rfl⟩ := List.mem_map.1 hx'
        obtain ⟨k, hk⟩ := List.getElem?_of_mem (List.mem_of_mem_drop hc)
        have hlt := (List.getElem?_eq_some_iff.1 hk).1
        exact (hrvs k c _ hk (List.getElem?_eq_getElem (by omega))).1
      · simp [wordZ] at hx'
        rcases hx' with rfl | rfl <;> rfl
    · intro k x u hx' hu'
      have l1 : ((cs.take (3 * i)).map (·.1)).length = 3 * i := by simp [c4]; omega
      have l2 : (us.take (3 * i)).length = 3 * i := by simp [hul]; omega
      have l3 : ((cs.drop (3 * (i + 1))).map (·.1)).length = 3 * (n - (i + 1)) := by simp [c4]; omega
      have l4 : (us.drop (3 * (i + 1))).length = 3 * (n - (i + 1)) := by simp [hul]; omega
      rw [List.append_assoc] at hx' hu'
      by_cases k1 : k < 3 * i
      · rw [List.getElem?_append_left (by rw [l1]; exact k1), List.getElem?_map, List.getElem?_take_of_lt k1] at hx'
        rw [List.getElem?_append_left (by rw [l2]; exact k1), List.getElem?_take_of_lt k1] at hu'
        obtain ⟨c, hc, rfl⟩ := Option.map_eq_some_iff.1 hx'
        exact (hrvs k c u hc hu').2
      · rw [List.getElem?_append_right (by rw [l1]; omega), l1] at hx'
        rw [List.getElem?_append_right (by rw [l2]; omega), l2] at hu'
        by_cases k2 : k - 3 * i < 3 * (n - (i + 1))
        · rw [List.getElem?_append_left (by rw [l3]; exact k2), List.getElem?_map, List.getElem?_drop] at hx'
          rw [List.getElem?_append_left (by rw [l4]; exact k2), List.getElem?_drop] at hu'
          obtain ⟨c, hc, rfl⟩ := Option.map_eq_some_iff.1 hx'
          exact (hrvs _ c u hc hu').2
        · rw [List.getElem?_append_right (by rw [l3]; omega), l3] at hx'
          rw [List.getElem?_append_right (by rw [l4]; omega), l4] at hu'
          exact wordZ_rv C _ x u hx' hu'
    · obtain ⟨rfl, rfl⟩ := he
      have hn1 : i + (n - (i + 1)) = n - 1 := by omega
      rw [hn1]
      have bel1 := below_setCells (B := 0) (a := C.w.drew) (C.ι id) (Nat.zero_le _) (us.drop ((i + 1) * 3)) (i * 3) C.w.drew (Below.refl _ _)
      have bel2 := below_setCells (B := 0) (a := C.w.drew) (C.ι id) (Nat.zero_le _) [.int .i64 0, .int .i64 0, .string ByteArray.empty] ((n - 1) * 3) _ bel1
      refine ⟨_, rfl, ?_, bel2.os, bel2.tape, bel2.output, fun D le hDw => ?_⟩
      · have hblk' : C.w.drew.heap[C.ι id]? = some (.cells vb ty (0, 0)) := hblk
        apply Array.ext_getElem?
        intro k
        by_cases hk : k = C.ι id
        · subst hk
          rw [setCells_block _ _ _ _ (setCells_block _ _ _ _ hblk'), setCells_block _ _ _ _ hblk]
          congr 2
          apply Array.ext_getElem?
          intro j
          have l2 : (us.take (3 * i)).length = 3 * i := by simp [hul]; omega
          have l4 : (us.drop (3 * (i + 1))).length = 3 * (n - (i + 1)) := by simp [hul]; omega
          have l5 : (us.drop ((i + 1) * 3)).length = (n - (i + 1)) * 3 := by simp [hul]; omega
          have l6 : ∀ (c : Array Value) (o : Nat) (l : List Value), (setsA c o l).size = c.size := fun c o l => setsA_size l c o
          rw [setsA_get, setsA_get, setsA_get, l6, l5]
          simp only [List.length_append, l2, l4, List.length_cons, List.length_nil, Nat.zero_add, Nat.zero_le, true_and, Nat.sub_zero]
          rw [List.append_assoc]
          by_cases j0 : j < 3 * n
          · have jv : j < vb.size := by omega
            rw [if_pos (show j < 3 * i + 3 * (n - (i + 1)) + 3 ∧ j < vb.size from ⟨by omega, jv⟩)]
            by_cases j1 : j < 3 * i
            · rw [if_neg (by omega), if_neg (by omega), List.getElem?_append_left (by rw [l2]; exact j1), List.getElem?_take_of_lt j1, hget j (by omega)]
            · rw [List.getElem?_append_right (by rw [l2]; omega), l2]
              by_cases j2 : j < (n - 1) * 3
              · rw [if_neg (by omega), if_pos (by omega), List.getElem?_append_left (by rw [l4]; omega), List.getElem?_drop, List.getElem?_drop]
                congr 1; omega
              · rw [if_pos (by omega), List.getElem?_append_right (by rw [l4]; omega), l4]
                congr 1; omega
          · rw [if_neg (by omega), if_neg (by omega), if_neg (by omega)]
        · rw [setCells_other _ _ hk, setCells_other _ _ hk, setCells_other _ _ hk]
          rfl
      · have h5 := hv.mono le
        rw [← le.map id hid] at h5 ⊢
        obtain ⟨c, e1, g1, g2, g3⟩ := h5.sl_inv
        injection e1 with _ _ e1
        subst e1
        exact .sl id 0 (n - 1) 3 cap true g1 (by omega) g3
end Go.Proofs.YtkpfkadjmijmlaaGreatDoor.M
/- slices.Clone of an array of expressions: by a machine of its own. -/
namespace Go.Proofs.YtkpfkadjmijmlaaGreatDoor.M
open Go.Proofs
set_option linter.unusedSimpArgs false
set_option linter.unusedVariables false
set_option maxRecDepth 100000
set_option pp.deepTerms false
set_option pp.deepTerms.threshold 6
set_option maxHeartbeats 4000000
noncomputable def K1 : Cfg := { P := Tryz.prog, pure := fun _ => true, mu := fun _ => [26], ext := fun _ _ _ _ _ => none }
@[simp] theorem K1_P : K1.P = Tryz.prog := rfl
theorem mapO_low0 {lo n : Nat} {hp : Heap} : ∀ {l : List AVal}, idsLts lo l = true → mapO (fz lo hp n) l = some l := by
  intro l
  induction l with
  | nil => intro _; rfl
  | cons x r ih =>
    intro h
    rw [idsLts_cons, Bool.and_eq_true] at h
    rw [mapO, ih h.2]
    have : fz lo hp n x = some x := by cases n <;> simp [fz, h.1]
    rw [this]
theorem chunks_ids {lo sz : Nat} : ∀ (n : Nat) (us : List AVal), idsLts lo us = true → idsLts lo (chunks sz n us) = true := by
  intro n
  induction n with
  | zero => intro us _; rw [chunks]; simp
  | succ n ih =>
    intro us h
    have hm := (idsLts_iff lo us).1 h
    rw [chunks, idsLts_cons, Bool.and_eq_true]
    exact ⟨by simp only [idsLt_agg]; exact (idsLts_iff _ _).2 fun a ha => hm a (List.mem_of_mem_take ha), ih _ ((idsLts_iff _ _).2 fun a ha => hm a (List.mem_of_mem_drop ha))⟩
theorem copy_R {id off n : Nat} {cs : List Cell} {hp : Heap} (hg : hget hp id = some (.cells cs)) (h0 : 0 < n) (hn : n ≤ 20000) (hl : off + n * 4 ≤ cs.length) (hi : idsLts 0 (copyCells off n 4 cs) = true) (ro nx : Nat) (hid : id < nx) : R K1 48 [.sl id off n 4 true] ro nx hp = some ⟨.lst (chunks 4 n (copyCells off n 4 cs)), false, nx, hp⟩ := by
  have hlow : ∀ m, idsLts m (copyCells off n 4 cs) = true := fun m => idsLts_zero m _ hi
  have hlen : (copyCells off n 4 cs).length = n * 4 := by simp only [copyCells, List.length_map, List.length_take, List.length_drop]; omega
  have hco : cellsOf Tryz.prog 28 (.sl id off n 4 true) ((nx, .cells []) :: hp) = some (n, copyCells off n 4 cs) := by
    rw [cellsOf_sl, hget_cons, if_neg (by omega), hg]
    simp only [cellsB]
    rw [if_pos ⟨by kernel_rfl, hl⟩]
    rfl
  generalize copyCells off n 4 cs = us at hco hlow hlen hi
  have hb : n * 56 ≤ 140737488355328 := by omega
  have hn0 : ¬ n = 0 := by omega
  have hfz : ∀ h' : Heap, FZ nx ((nx + 1, .cells (unown us)) :: h') (.sl (nx + 1) 0 n 4 true) = some (.lst (chunks 4 n us)) := by
    intro h'
    refine FZ_iff.2 ⟨1, ?_⟩
    have e : fz nx ((nx + 1, .cells (unown us)) :: h') 1 (.sl (nx + 1) 0 n 4 true) = if (AVal.sl (nx + 1) 0 n 4 true).idsLt nx then some (.sl (nx + 1) 0 n 4 true) else fzv nx ((nx + 1, .cells (unown us)) :: h') (fz nx ((nx + 1, .cells (unown us)) :: h') 0) (.sl (nx + 1) 0 n 4 true) := rfl
    rw [e, if_neg (by simp)]
    have e2 : (((unown us).drop 0).take (n * 4)).map (·.1) = us := by
      have hul : (unown us).length = n * 4 := by simp [unown, hlen]
      rw [List.drop_zero, ← hul, List.take_length]
      simp [unown, Function.comp_def]
    simp only [fzv, hget_same]
    rw [if_pos ⟨by omega, by decide, .inl trivial, by simp [unown, hlen]⟩, e2, mapO_low0 (hlow nx)]
    rfl
  have hS : ∀ h' : Heap, Sealed nx hp (some ⟨.sl (nx + 1) 0 n 4 true, false, nx + 1 + 1, (nx + 1, .cells (unown us)) :: h'⟩) = some ⟨.lst (chunks 4 n us), false, nx, hp⟩ := by
    intro h'
    have hx : (AVal.lst (chunks 4 n us)).idsLt nx = true := by rw [idsLt_lst]; exact chunks_ids n us (hlow nx)
    simp only [Sealed, hfz, hx, if_true, slOwn, Bool.false_and]
  have hap : ∀ x, apM nx 56 4 true x (nx + 1) ((nx, .cells []) :: hp) (.sl nx 0 0 4 true, false) (some (n, us)) = some ⟨.sl (nx + 1) 0 n 4 true, false, none, nx + 1 + 1, (nx + 1, .cells (unown us)) :: hdel ((nx, .cells []) :: hp) nx⟩ := by
    intro x
    have h0 : hget ((nx, ABlk.cells []) :: hp) nx = some (.cells []) := hget_same _ _ _
    rw [apM_sl h0, if_pos ⟨Nat.le_refl _, rfl, by simp, by rw [Nat.zero_add]; exact hb⟩]
    simp
  rw [R_pure' K1 ro 48 _ nx hp [] Tryz.func48 rfl Tryz.ntmps48 Tryz.results48 (mu := [26]) rfl (by kernel_rfl) rfl rfl rfl rfl]
  simp only [slim, slimO, annO, List.map, List.zip, List.zipWith, List.lookup, holed, Nat.reduceBEq]
  simp [List.replicate, ↓hco, hap]
  exact hS _
theorem names_ok1 : (Tryz.prog).funcs.all (fun fn => fn.name != "runtime.NumGoroutine") = true := by kernel_rfl
theorem names_no (f : FuncId) (fn : Func) (hf : (Tryz.prog).funcs[f]? = some fn) : fn.name ≠ "runtime.NumGoroutine" := by
  have := Array.all_eq_true'.1 names_ok1 fn (Array.mem_of_getElem? hf)
  simpa using this
theorem copy_good : GoodCall Tryz.prog (copyExt 48 4) := by
  have hgood := R_right K1 (no_ext Tryz.prog).1 (no_ext Tryz.prog).2 (fun f h => by cases h) names_no
  intro f args ro nx hp r h C B F w0 vs hnx hW hl hrv
  unfold copyExt at h
  split at h
  rotate_left
  · cases h
  rename_i e
  subst e
  split at h
  rotate_left
  · cases h
  rename_i id off n s
  split at h
  rotate_left
  · cases h
  rename_i cs hg
  split at h
  rotate_left
  · cases h
  rename_i hc
  obtain ⟨rfl, c2, c3, c4, c5⟩ := hc
  cases h
  have hid : id < nx := by rw [← hnx]; exact hW.heap.ids id (by rw [hg]; rfl)
  exact hgood _ _ ro _ _ _ (copy_R hg c2 c3 c4 c5 ro nx hid) C B F w0 vs hnx hW hl hrv
end Go.Proofs.YtkpfkadjmijmlaaGreatDoor.M
/- The contracts from outside are right. -/
namespace Go.Proofs.YtkpfkadjmijmlaaGreatDoor.M
open Go.Proofs Go.Proofs.YtkpfkadjmijmlaaGreatDoor.X Go.RowKit Go.Maps Go.Sort
set_option linter.unusedSimpArgs false
set_option linter.unusedVariables false
set_option maxRecDepth 100000
theorem repeatL_flat (l : List UInt8) (c : Nat) : Lib.repeatL l c = (List.replicate c l).flatten := by
  induction c with
  | zero => rfl
  | succ c ih => rw [Lib.repeatL, ih, List.replicate_succ, List.flatten_cons]
theorem name_good (f0 : FuncId) {fn : Func} {c : Code} (hf : (Tryz.prog).funcs[f0]? = some fn) (hb : fn.body = some c) (hname : fn.name ≠ "runtime.NumGoroutine")
    (hc : ∀ (s : ByteArray) (w : World), Calls Tryz.prog f0 #[.string s] w fun e w' => e = .returned (.bool (nameB s)) ∧ Below w.heap.size w w') : GoodCall Tryz.prog (pureExt f0 nameExt) := by
  refine pureExt_good f0 nameExt hf hb hname fun args a ha C vs hl _ hr => ?_
  unfold nameExt at ha
  split at ha
  · rename_i s
    cases ha
    match vs, hl with
    | [v], _ =>
      have hv := (hr 0 _ v rfl rfl).str_inv
      subst hv
      exact Calls.mono (hc s C.w) fun e w' h => ⟨_, h.1, h.2, fun D _ _ => .bool _⟩
  · cases ha
theorem repeat_good : GoodCall Tryz.prog (pureExt 37 repeatExt) := by
  refine pureExt_good 37 repeatExt Tryz.func37 rfl (by decide) fun args a ha C vs hl _ hr => ?_
  unfold repeatExt at ha
  split at ha
  · rename_i s n
    split at ha
    · rename_i hn
      cases ha
      match vs, hl with
      | [v, u], _ =>
        have hv := (hr 0 _ v rfl rfl).str_inv
        have hu := (hr 1 _ u rfl rfl).int_inv
        subst hv hu
        obtain ⟨c, rfl⟩ : ∃ c : Nat, n = c := ⟨n.toNat, by omega⟩
        have hm : s.size * c ≤ 1000 * 1000 := Nat.mul_le_mul (by omega) (by omega)
        refine Calls.mono (Tryz.strings_Repeat s c C.w (by omega) (by omega)) fun e w' h => ⟨_, h.1, h.2, fun D _ _ => ?_⟩
        rw [show Lib.repeatL s.data.toList c = (List.replicate (c : Int).toNat s.data.toList).flatten from repeatL_flat _ _]
        exact .str _
    · cases ha
  · cases ha
theorem more1_good : GoodCall Tryz.prog moreExt1 := fun f args ro nx hp r h => by cases h
theorem more1_safe : RoCall moreExt1 := fun f args ro nx hp r h => by cases h
theorem encIA_rv (C : Cx) (x : Int) : RV C (encIA x) (.int .i64 x) := .int _ _
theorem encIA_inv (C : Cx) (x : Int) (u : Value) (h : RV C (encIA x) u) : u = .int .i64 x := h.int_inv
theorem tupZ (C : Cx) : RV C (.tup []) (.tuple #[]) := .tup [] [] rfl fun i a v h => by simp at h
theorem sortI_good : GoodCall Tryz.prog (rowExt 83 decI encIA (fun xs => xs.mergeSort (fun a b => decide (a ≤ b))) (.tup []) (fun _ _ => .tup [])) := by
  refine rowExt_good _ decI encIA (Value.int .i64) _ _ (fun _ _ => .tuple #[]) _ (fun _ _ _ => .tuple #[]) Tryz.func83 rfl (by decide) decI_spec encIA_rv encIA_inv (fun _ => rfl) (fun p cap W => Tryz.slices_Sort_int_none p cap W) (fun C p cap _ => tupZ C) (fun blk cap zs W hH hb _ hl _ => ?_) (fun D id cap zs _ => tupZ D)
  refine Calls.mono (Tryz.slices_Sort_int blk 0 cap zs W hH hb (by omega)) fun e w' he => ?_
  obtain ⟨q1, k, os, q2⟩ := he
  exact ⟨q1, k, os, q2⟩
theorem revI_good : GoodCall Tryz.prog (rowExt 84 decI encIA List.reverse (.tup []) (fun _ _ => .tup [])) := by
  refine rowExt_good _ decI encIA (Value.int .i64) _ _ (fun _ _ => .tuple #[]) _ (fun _ _ _ => .tuple #[]) Tryz.func84 rfl (by decide) decI_spec encIA_rv encIA_inv (fun _ => rfl) (fun p cap W => Tryz.slices_Reverse_int_empty p cap W) (fun C p cap _ => tupZ C) (fun blk cap zs W hH hb _ hl _ => ?_) (fun D id cap zs _ => tupZ D)
  refine Calls.mono (Tryz.slices_Reverse_int blk 0 cap zs W hH (by omega)) fun e w' he => ?_
  obtain ⟨q1, k, q2⟩ := he
  exact ⟨q1, k, #[], by rw [q2]; simp [Sort.grow]; rfl⟩
theorem more2_good : GoodCall Tryz.prog moreExt2 := orExt_good sortI_good (orExt_good revI_good (orExt_good (emptyExt_good _ Tryz.func56 rfl (by decide) cloneI_calls) (orExt_good (orExt_good (emptyExt_good _ Tryz.func48 rfl (by decide) cloneE_calls) copy_good) del_good)))
theorem more2_safe : RoCall moreExt2 := orExt_safe (rowExt_safe _ _ _ _ _ _) (orExt_safe (rowExt_safe _ _ _ _ _ _) (orExt_safe (emptyExt_safe _) (orExt_safe (orExt_safe (emptyExt_safe _) (copyExt_safe _ _)) (delExt_safe _ _ _))))
theorem ext_ft : FtOk K := by
  intro f hf
  have e : f = 48 := by
    have h : ftFs.contains f = true := hf
    simpa [ftFs] using h
  subst e
  refine ⟨rfl, rfl, fun a ro nx hp r h => ?_⟩
  have hk : ∀ (a : AVal) (ro nx : Nat) (hp : Heap), K.ext 48 [a] ro nx hp = orExt (emptyExt 48) (copyExt 48 4) 48 [a] ro nx hp := by
    intro a ro nx hp
    have h1 : ∀ x : Option Res, (match x with | some r => some r | none => (none : Option Res)) = x := fun x => by cases x <;> rfl
    have hd : delExt 40 3 wordZ 48 [a] ro nx hp = none := rfl
    show orExt (orExt (emptyExt 48) (copyExt 48 4)) (delExt 40 3 wordZ) 48 [a] ro nx hp = _
    generalize orExt (emptyExt 48) (copyExt 48 4) = g
    unfold orExt
    rw [hd]
    cases g 48 [a] ro nx hp <;> rfl
  rw [hk] at h
  refine ⟨?_, fun ro' nx' hp' hs => ?_⟩
  · unfold orExt emptyExt copyExt at h
    simp only [if_true] at h
    split at h
    · rename_i q hq
      split at hq
      · cases hq; cases h; rfl
      · cases hq
    · split at h
      · split at h
        · split at h
          · rename_i hc
            cases h
            rw [idsLt_lst]
            exact chunks_ids _ _ hc.2.2.2.2
          · cases h
        · cases h
      · cases h
  · rw [hk]
    unfold orExt emptyExt copyExt at h ⊢
    simp only [if_true] at h ⊢
    cases a with
    | lst xs =>
      cases xs with
      | nil => cases h; rfl
      | cons x r => cases h
    | sl id off n s ag =>
      cases ag with
      | false => cases h
      | true =>
        simp only at h ⊢
        rw [← hs id rfl]
        cases hg : hget hp id with
        | none => rw [hg] at h; cases h
        | some b =>
          rw [hg] at h
          cases b with
          | map es => cases h
          | cells cs =>
            simp only at h ⊢
            split at h
            · rename_i hc
              cases h
              rw [if_pos hc]
            · cases h
    | _ => cases h
theorem more_good : GoodCall Tryz.prog moreExt := orExt_good more1_good more2_good
theorem more_safe : RoCall moreExt := orExt_safe more1_safe more2_safe
theorem ext_good : GoodCall Tryz.prog K.ext := orExt_good (name_good 87 Tryz.func87 rfl (by decide) isName_calls) (orExt_good (name_good 52 Tryz.func52 rfl (by decide) name_calls) (orExt_good repeat_good more_good))
theorem ext_safe : RoCall K.ext := orExt_safe (pureExt_safe _ _) (orExt_safe (pureExt_safe _ _) (orExt_safe (pureExt_safe _ _) more_safe))
end Go.Proofs.YtkpfkadjmijmlaaGreatDoor.M
/- Generators: the stream, in plain words. -/
namespace Go.Proofs.YtkpfkadjmijmlaaGreatDoor.M
open Go.Proofs
set_option linter.unusedSimpArgs false
set_option linter.unusedVariables false
set_option maxRecDepth 100000
set_option pp.deepTerms false
set_option pp.deepTerms.threshold 6
set_option maxHeartbeats 4000000
def ints' (xs : List Int) : List AVal := xs.map (.int .i64)
def strm (l : List Int) (at_ : Int) : ABlk := .cells [(.lst (ints' l), false), (.int .i64 at_, false)]
@[simp] theorem hset_hset (hp : Heap) (s : Nat) (b c : ABlk) : hset (hset hp s b) s c = hset hp s c := by
  induction hp with
  | nil => rfl
  | cons p hp ih =>
    obtain ⟨i, x⟩ := p
    by_cases h : s = i
    · simp [hset, h]
    · simp [hset, h, ih]
theorem hget_hset_same (hp : Heap) (s : Nat) (b : ABlk) : hget (hset hp s b) s = if (hget hp s).isSome = true then some b else none := by rw [hget_hset, if_pos rfl]
theorem wrap_small {n : Int} (h0 : -9223372036854775808 ≤ n) (h1 : n < 9223372036854775808) : IntKind.i64.wrap n = n := by
  unfold IntKind.wrap
  simp [IntKind.bits, IntKind.signed]
  omega
def belowF (x n : Int) : Int := if n < 1 then 0 else x % n
theorem tmod_fix (x n : Int) (h : ¬ n < 1) : (if x.tmod n < 0 then x.tmod n + n else x.tmod n) = x % n := by
  rw [Int.tmod_eq_emod]
  have h1 := Int.emod_nonneg x (show n ≠ 0 by omega)
  have h2 := Int.emod_lt_of_pos x (show 0 < n by omega)
  have h3 : (n.natAbs : Int) = n := by omega
  split
  · split <;> omega
  · split <;> omega
@[simp] theorem below_R (x n : Int) (hn : n < 9223372036854775808) (ro nx : Nat) (hp : Heap) : R K 76 [.int .i64 x, .int .i64 n] ro nx hp = some ⟨.int .i64 (belowF x n), false, nx, hp⟩ := by
  unfold belowF
  rw [R_val' K ro 76 _ nx hp [] Tryz.func76 rfl Tryz.ntmps76 Tryz.results76 (mu := []) rfl (by kernel_rfl) rfl rfl rfl]; simp only [slim, slimO, annO, List.map, List.zip, List.zipWith, List.lookup, holed, Nat.reduceBEq]
  by_cases h : n < 1
  · simp [List.replicate, h]
  · have h0 : n ≠ 0 := by omega
    have hf := tmod_fix x n h
    simp [List.replicate, h, h0]
    split
    · rename_i hx
      have hw : IntKind.i64.wrap (x.tmod n + n) = x.tmod n + n := by
        have := Int.tmod_lt_of_pos x (show 0 < n by omega)
        have := Int.lt_tmod_of_pos x (show 0 < n by omega)
        exact wrap_small (by omega) (by omega)
      rw [if_pos hx] at hf
      rw [hf] at hw
      simp [hw, hf]
    · rename_i hx
      rw [if_neg hx] at hf
      simp [hf]
/-- What the stream's next number is. -/
def nextF (l : List Int) (a n : Int) : Int := if l = [] then belowF (IntKind.i64.wrap ((a + 1) * 7919)) n else
  belowF (IntKind.i64.wrap (belowF (l.getD (a.tmod l.length).toNat 0) 1073741824 + IntKind.i64.wrap (IntKind.i64.wrap (a.tdiv l.length) * IntKind.i64.wrap (7919 + a.tmod l.length)))) n
theorem next_R (l : List Int) (a n : Int) (s ro nx : Nat) (hp : Heap) (ha : 0 ≤ a ∧ a < 4611686018427387904) (hn : n < 4611686018427387904) (hl : l.length < 4611686018427387904) (hs : hget hp s = some (strm l a)) (hro : ro ≤ s) :
    R K 34 [.ptr s 0, .int .i64 n] ro nx hp = some ⟨.int .i64 (nextF l a n), false, nx, hset hp s (strm l (a + 1))⟩ := by
  have hn' : n < 9223372036854775808 := by omega
  unfold nextF
  rw [R_body' K ro 34 _ nx hp [] Tryz.func34 rfl Tryz.ntmps34 Tryz.results34 (mu := []) rfl (by kernel_rfl) rfl rfl rfl rfl]; simp only [slim, slimO, annO, List.map, List.zip, List.zipWith, List.lookup, holed, Nat.reduceBEq]
  simp only [strm] at hs
  have hw : IntKind.i64.wrap (a + 1) = a + 1 := wrap_small (by omega) (by omega)
  have hg : hget (hset hp s (ABlk.cells [(.lst (ints' l), false), (.int .i64 (a + 1), false)])) s = some (ABlk.cells [(.lst (ints' l), false), (.int .i64 (a + 1), false)]) := by rw [hget_hset_same]; simp [hs]
  have hlen : (ints' l).length = l.length := by simp [ints']
  simp [List.replicate, strm, hs, hw, hro, hg, hlen]
  by_cases hl0 : l = []
  · subst hl0
    simp [hn', below_R]
  · have hpos : 0 < l.length := List.length_pos_iff.2 hl0
    have hne : ¬ (l.length : Int) = 0 := by omega
    have hw2 : IntKind.i64.wrap a = a := wrap_small (by omega) (by omega)
    have hm0 : 0 ≤ a.tmod l.length := Int.tmod_nonneg _ ha.1
    have hm1 : a.tmod l.length < l.length := Int.tmod_lt_of_pos _ (by omega)
    have hq0 : 0 ≤ a.tdiv l.length := Int.tdiv_nonneg ha.1 (by omega)
    have hx : (ints' l)[(a.tmod l.length).toNat]? = some (.int .i64 (l.getD (a.tmod l.length).toNat 0)) := by
      unfold ints'
      rw [List.getElem?_map, List.getElem?_eq_getElem (show (a.tmod l.length).toNat < l.length by omega), List.getD_eq_getElem?_getD, List.getElem?_eq_getElem (show (a.tmod l.length).toNat < l.length by omega)]
      rfl
    simp [hl0, hg, hw2, hlen, hne, hn', below_R, hm0, hx]
theorem belowF_range (x n : Int) : (1 ≤ n → 0 ≤ belowF x n ∧ belowF x n < n) ∧ (n < 1 → belowF x n = 0) := by
  unfold belowF
  constructor
  · intro h
    rw [if_neg (by omega)]
    exact ⟨Int.emod_nonneg _ (by omega), Int.emod_lt_of_pos _ (by omega)⟩
  · intro h; rw [if_pos h]
theorem nextF_range (l : List Int) (a n : Int) : (1 ≤ n → 0 ≤ nextF l a n ∧ nextF l a n < n) ∧ (n < 1 → nextF l a n = 0) := by
  unfold nextF
  split
  · exact belowF_range _ _
  · exact belowF_range _ _
theorem flip_R (l : List Int) (a n : Int) (s ro nx : Nat) (hp : Heap) (ha : 0 ≤ a ∧ a < 4611686018427387904) (hn : n < 4611686018427387904) (hl : l.length < 4611686018427387904) (hs : hget hp s = some (strm l a)) (hro : ro ≤ s) :
    R K 33 [.ptr s 0, .int .i64 n] ro nx hp = some ⟨.bool (nextF l a n == 0), false, nx, hset hp s (strm l (a + 1))⟩ := by
  have h1 := next_R l a n s ro nx hp ha hn hl hs hro
  rw [R_body' K ro 33 _ nx hp [] Tryz.func33 rfl Tryz.ntmps33 Tryz.results33 (mu := []) rfl (by kernel_rfl) rfl rfl rfl rfl]; simp only [slim, slimO, annO, List.map, List.zip, List.zipWith, List.lookup, holed, Nat.reduceBEq]
  simp [List.replicate, h1]
theorem range_R (l : List Int) (a lo hi : Int) (s ro nx : Nat) (hp : Heap) (ha : 0 ≤ a ∧ a < 4611686018427387904) (h1 : -1073741824 < lo ∧ lo < 1073741824) (h2 : -1073741824 < hi ∧ hi < 1073741824) (hlh : lo ≤ hi) (hl : l.length < 4611686018427387904) (hs : hget hp s = some (strm l a)) (hro : ro ≤ s) :
    R K 38 [.ptr s 0, .int .i64 lo, .int .i64 hi] ro nx hp = some ⟨.int .i64 (lo + nextF l a (hi - lo + 1)), false, nx, hset hp s (strm l (a + 1))⟩ := by
  have hN := next_R l a (hi - lo + 1) s ro nx hp ha (by omega) hl hs hro
  have hw1 : IntKind.i64.wrap (hi - lo) = hi - lo := wrap_small (by omega) (by omega)
  have hw2 : IntKind.i64.wrap (hi - lo + 1) = hi - lo + 1 := wrap_small (by omega) (by omega)
  have hr := (nextF_range l a (hi - lo + 1)).1 (by omega)
  have hw3 : IntKind.i64.wrap (lo + nextF l a (hi - lo + 1)) = lo + nextF l a (hi - lo + 1) := wrap_small (by omega) (by omega)
  have hnl : ¬ hi < lo := by omega
  rw [R_body' K ro 38 _ nx hp [] Tryz.func38 rfl Tryz.ntmps38 Tryz.results38 (mu := []) rfl (by kernel_rfl) rfl rfl rfl rfl]; simp only [slim, slimO, annO, List.map, List.zip, List.zipWith, List.lookup, holed, Nat.reduceBEq]
  simp [List.replicate, hN, hw1, hw2, hw3, hnl]
def pickF (l : List Int) (a : Int) (ls : List Int) : Int := ls.getD (nextF l a ls.length).toNat 0
theorem pick_R (l : List Int) (a : Int) (ls : List Int) (s ro nx : Nat) (hp : Heap) (ha : 0 ≤ a ∧ a < 4611686018427387904) (h1 : 1 ≤ ls.length ∧ ls.length < 1073741824) (hl : l.length < 4611686018427387904) (hs : hget hp s = some (strm l a)) (hro : ro ≤ s) :
    R K 32 [.ptr s 0, .lst (ints' ls)] ro nx hp = some ⟨.int .i64 (pickF l a ls), false, nx, hset hp s (strm l (a + 1))⟩ := by
  have hN := next_R l a ls.length s ro nx hp ha (by omega) hl hs hro
  have hr := (nextF_range l a ls.length).1 (by omega)
  have hlen : (ints' ls).length = ls.length := by simp [ints']
  have hx : (ints' ls)[(nextF l a ls.length).toNat]? = some (.int .i64 (pickF l a ls)) := by
    unfold ints' pickF
    rw [List.getElem?_map, List.getElem?_eq_getElem (show (nextF l a ls.length).toNat < ls.length by omega), List.getD_eq_getElem?_getD, List.getElem?_eq_getElem (show (nextF l a ls.length).toNat < ls.length by omega)]
    rfl
  rw [R_body' K ro 32 _ nx hp [] Tryz.func32 rfl Tryz.ntmps32 Tryz.results32 (mu := []) rfl (by kernel_rfl) rfl rfl rfl rfl]; simp only [slim, slimO, annO, List.map, List.zip, List.zipWith, List.lookup, holed, Nat.reduceBEq]
  simp [List.replicate, hlen, hN, hr.1, hx]
def strs (xs : List ByteArray) : List AVal := xs.map .str
def someF (l : List Int) (a : Int) (ls : List ByteArray) : ByteArray := ls.getD (nextF l a ls.length).toNat ByteArray.empty
theorem some_R (l : List Int) (a : Int) (ls : List ByteArray) (s ro nx : Nat) (hp : Heap) (ha : 0 ≤ a ∧ a < 4611686018427387904) (h1 : 1 ≤ ls.length ∧ ls.length < 1073741824) (hl : l.length < 4611686018427387904) (hs : hget hp s = some (strm l a)) (hro : ro ≤ s) :
    R K 36 [.ptr s 0, .lst (strs ls)] ro nx hp = some ⟨.str (someF l a ls), false, nx, hset hp s (strm l (a + 1))⟩ := by
  have hN := next_R l a ls.length s ro nx hp ha (by omega) hl hs hro
  have hr := (nextF_range l a ls.length).1 (by omega)
  have hlen : (strs ls).length = ls.length := by simp [strs]
  have hx : (strs ls)[(nextF l a ls.length).toNat]? = some (.str (someF l a ls)) := by
    unfold strs someF
    rw [List.getElem?_map, List.getElem?_eq_getElem (show (nextF l a ls.length).toNat < ls.length by omega), List.getD_eq_getElem?_getD, List.getElem?_eq_getElem (show (nextF l a ls.length).toNat < ls.length by omega)]
    rfl
  rw [R_body' K ro 36 _ nx hp [] Tryz.func36 rfl Tryz.ntmps36 Tryz.results36 (mu := []) rfl (by kernel_rfl) rfl rfl rfl rfl]; simp only [slim, slimO, annO, List.map, List.zip, List.zipWith, List.lookup, holed, Nat.reduceBEq]
  simp [List.replicate, hlen, hN, hr.1, hx]
def oddF (l : List Int) (a lo hi : Int) : Int × Int := if nextF l a 12 = 0 then (pickF l (a + 1) [lo - 1, hi + 1, lo, hi, -1099511627776, 1099511627776], a + 2) else (lo + nextF l (a + 1) (hi - lo + 1), a + 2)
theorem odd_R (l : List Int) (a lo hi : Int) (s ro nx : Nat) (hp : Heap) (ha : 0 ≤ a ∧ a < 4611686018427387900) (h1 : -1073741824 < lo ∧ lo < 1073741823) (h2 : -1073741824 < hi ∧ hi < 1073741823) (hlh : lo ≤ hi) (hl : l.length < 4611686018427387904) (hs : hget hp s = some (strm l a)) (hro : ro ≤ s) :
    R K 35 [.ptr s 0, .int .i64 lo, .int .i64 hi] ro nx hp = some ⟨.int .i64 (oddF l a lo hi).1, false, nx, hset hp s (strm l (a + 2))⟩ := by
  have hF := flip_R l a 12 s ro nx hp (by omega) (by omega) hl hs hro
  have hg : hget (hset hp s (strm l (a + 1))) s = some (strm l (a + 1)) := by rw [hget_hset_same]; simp [hs]
  have hP := pick_R l (a + 1) [lo - 1, hi + 1, lo, hi, -1099511627776, 1099511627776] s ro nx _ (by omega) (by simp) hl hg hro
  have hR := range_R l (a + 1) lo hi s ro nx _ (by omega) (by omega) (by omega) hlh hl hg hro
  have hw1 : IntKind.i64.wrap (lo - 1) = lo - 1 := wrap_small (by omega) (by omega)
  have hw2 : IntKind.i64.wrap (hi + 1) = hi + 1 := wrap_small (by omega) (by omega)
  have e2 : a + 1 + 1 = a + 2 := by omega
  simp only [ints', List.map_cons, List.map_nil] at hP
  unfold oddF
  rw [R_body' K ro 35 _ nx hp [] Tryz.func35 rfl Tryz.ntmps35 Tryz.results35 (mu := []) rfl (by kernel_rfl) rfl rfl rfl rfl]; simp only [slim, slimO, annO, List.map, List.zip, List.zipWith, List.lookup, holed, Nat.reduceBEq]
  by_cases h0 : nextF l a 12 = 0
  · simp [List.replicate, hF, h0, hw1, hw2, hP, e2]
  · simp [List.replicate, hF, h0, hR, e2]
end Go.Proofs.YtkpfkadjmijmlaaGreatDoor.M
/- Heaps of records that stand in trees: what is made of them when they are frozen. -/
namespace Go.Proofs.YtkpfkadjmijmlaaGreatDoor.M
set_option linter.unusedVariables false
set_option linter.unusedSimpArgs false

/-- What a cell holds: a number, a truth, a string, a list of records of a kind. -/
inductive CK where
  | int | bool | str
  | row (k : Nat)
structure Rec where
  ag : Bool
  cs : List CK
structure Recs where
  of : Nat → Rec
  /-- Lists of these records are arrays that change (but empty ones). -/
  live : Nat → Bool
  most : Nat
  pos : ∀ k, 0 < (of k).cs.length
  one : ∀ k, (of k).ag = false → (of k).cs.length = 1
/-- A value without addresses. -/
inductive Fr (T : Recs) : CK → AVal → Prop where
  | int (n : Int) : Fr T .int (.int .i64 n)
  | bool (b : Bool) : Fr T .bool (.bool b)
  | str (s : ByteArray) : Fr T .str (.str s)
  | row (k : Nat) (xs : List AVal) (hl : ∀ x, x ∈ xs → x.flat.length = (T.of k).cs.length) (ha : ∀ x, x ∈ xs → if (T.of k).ag then ∃ cs, x = .agg cs else x.one = true)
      (h : ∀ x, x ∈ xs → ∀ (j : Nat) c u, (T.of k).cs[j]? = some c → x.flat[j]? = some u → Fr T c u) : Fr T (.row k) (.lst xs)
theorem Fr.one {T : Recs} {c : CK} {v : AVal} (h : Fr T c v) : v.one = true := by cases h <;> rfl
theorem Fr.unS {T : Recs} {c : CK} {v : AVal} (h : Fr T c v) : unS v = (v, false) := by cases h <;> rfl
theorem idsLts_of {n : Nat} {l : List AVal} (h : ∀ x, x ∈ l → x.idsLt n = true) : idsLts n l = true := by
  induction l with
  | nil => simp
  | cons x r ih => simp only [idsLts_cons, Bool.and_eq_true]; exact ⟨h x (.head _), ih fun y hy => h y (.tail _ hy)⟩
theorem idsLts_mem {n : Nat} {l : List AVal} (h : idsLts n l = true) : ∀ x, x ∈ l → x.idsLt n = true := by
  induction l with
  | nil => intro x hx; cases hx
  | cons y r ih =>
    simp only [idsLts_cons, Bool.and_eq_true] at h
    intro x hx
    cases hx with
    | head => exact h.1
    | tail _ hx => exact ih h.2 x hx
theorem flat_idsT {n : Nat} {x : AVal} (h : ∀ u, u ∈ x.flat → u.idsLt n = true) : x.idsLt n = true := by
  cases x with
  | agg cs => simp only [idsLt_agg]; exact idsLts_of h
  | _ => exact h _ (by simp [AVal.flat])
theorem Fr.ids {T : Recs} {c : CK} {v : AVal} (h : Fr T c v) (n : Nat) : v.idsLt n = true := by
  induction h with
  | int n => simp
  | bool b => simp
  | str s => simp
  | row k xs hl ha h ih =>
    simp only [idsLt_lst]
    refine idsLts_of fun x hx => flat_idsT fun u hu => ?_
    obtain ⟨j, hj, he⟩ := List.getElem_of_mem hu
    have hj' : j < (T.of k).cs.length := by rw [← hl x hx]; exact hj
    exact ih x hx j _ u (List.getElem?_eq_getElem hj') (by rw [List.getElem?_eq_getElem hj, he])
/-- A value that leads nowhere. -/
def Leaf (T : Recs) (c : CK) (v : AVal) : Prop := Fr T c v ∧ ∀ k xs, c = .row k → v = .lst xs → T.live k = true → xs = []
theorem Leaf.int {T : Recs} (n : Int) : Leaf T .int (.int .i64 n) := ⟨.int n, fun k xs h => by cases h⟩
theorem Leaf.bool {T : Recs} (b : Bool) : Leaf T .bool (.bool b) := ⟨.bool b, fun k xs h => by cases h⟩
theorem Leaf.str {T : Recs} (b : ByteArray) : Leaf T .str (.str b) := ⟨.str b, fun k xs h => by cases h⟩
theorem Leaf.nil {T : Recs} (k : Nat) : Leaf T (.row k) (.lst []) := ⟨.row k [] (fun x hx => by cases hx) (fun x hx => by cases hx) (fun x hx => by cases hx), fun k xs h e _ => by injection e with e; exact e.symm⟩
/-- A heap of such records: what kinds of records a variable has, and its rank. -/
structure Kd where
  kind : Nat → Nat → Prop
  rank : Nat → Nat
/-- A value in such a heap: its lists rank below r. -/
inductive Hv (T : Recs) (G : Kd) (hp : Heap) (r : Nat) : CK → AVal → Prop where
  | fr {c : CK} {v : AVal} (h : Leaf T c v) : Hv T G hp r c v
  | sl (k id m len : Nat) (cs : List Cell) (hk : G.kind id k) (hr : G.rank id < r) (hg : hget hp id = some (.cells cs)) (hl : (m + len) * (T.of k).cs.length ≤ cs.length) : Hv T G hp r (.row k) (.sl id (m * (T.of k).cs.length) len (T.of k).cs.length (T.of k).ag)
theorem Hv.one {T : Recs} {G : Kd} {hp : Heap} {r : Nat} {c : CK} {v : AVal} (h : Hv T G hp r c v) : v.one = true := by
  cases h with
  | fr h => exact h.1.one
  | sl => rfl
theorem Hv.up {T : Recs} {G : Kd} {hp : Heap} {r r' : Nat} {c : CK} {v : AVal} (h : Hv T G hp r c v) (hr : r ≤ r') : Hv T G hp r' c v := by
  cases h with
  | fr h => exact .fr h
  | sl k id m len cs hk hr' hg hl => exact .sl k id m len cs hk (by omega) hg hl
/-- All variables with a kind hold records of it. -/
structure Forest (T : Recs) (G : Kd) (lo : Nat) (hp : Heap) : Prop where
  lo : ∀ id k, G.kind id k → lo ≤ id
  cells : ∀ id k cs, G.kind id k → hget hp id = some (.cells cs) → ∀ (j : Nat) (c : Cell) t, cs[j]? = some c → (T.of k).cs[j % (T.of k).cs.length]? = some t → Hv T G hp (G.rank id) t c.1
theorem mapO_some {f : AVal → Option AVal} (Q : Nat → AVal → Prop) : ∀ (l : List AVal) (i : Nat), (∀ (j : Nat) v, l[j]? = some v → ∃ u, f v = some u ∧ Q (i + j) u) → ∃ us, mapO f l = some us ∧ us.length = l.length ∧ ∀ (j : Nat) u, us[j]? = some u → Q (i + j) u := by
  intro l
  induction l with
  | nil => intro i h; exact ⟨[], rfl, rfl, fun j u hu => by simp at hu⟩
  | cons v l ih =>
    intro i h
    obtain ⟨u, h1, h2⟩ := h 0 v rfl
    obtain ⟨us, h3, h4, h5⟩ := ih (i + 1) fun j v hv => by
      obtain ⟨u, q1, q2⟩ := h (j + 1) v (by simpa using hv)
      exact ⟨u, q1, by rw [show i + 1 + j = i + (j + 1) by omega]; exact q2⟩
    refine ⟨u :: us, by simp only [mapO, h1, h3], by simp [h4], fun j w hw => ?_⟩
    cases j with
    | zero => simp at hw; subst hw; exact h2
    | succ j => rw [show i + (j + 1) = i + 1 + j by omega]; exact h5 j w (by simpa using hw)
theorem chunks_mem {sz : Nat} : ∀ (n : Nat) (us : List AVal) (x : AVal), us.length = n * sz → x ∈ chunks sz n us → ∃ i, i < n ∧ x = .agg ((us.drop (i * sz)).take sz) := by
  intro n
  induction n with
  | zero => intro us x _ hx; simp [chunks] at hx
  | succ n ih =>
    intro us x hl hx
    simp only [chunks, List.mem_cons] at hx
    rcases hx with rfl | hx
    · exact ⟨0, by omega, by simp⟩
    · obtain ⟨i, hi, rfl⟩ := ih (us.drop sz) x (by rw [List.length_drop, hl, Nat.succ_mul]; omega) hx
      exact ⟨i + 1, by omega, by rw [List.drop_drop, Nat.succ_mul, Nat.add_comm sz]⟩
theorem hv_fz {T : Recs} {G : Kd} {lo : Nat} {hp : Heap} (F : Forest T G lo hp) : ∀ (r : Nat) (c : CK) (v : AVal), Hv T G hp r c v → ∃ u, fz lo hp r v = some u ∧ Fr T c u := by
  intro r
  induction r with
  | zero =>
    intro c v h
    cases h with
    | fr h => exact ⟨v, by simp only [fz]; rw [if_pos (h.1.ids lo)], h.1⟩
    | sl k id m len cs hk hr hg hl => omega
  | succ r ih =>
    intro c v h
    cases h with
    | fr h => exact ⟨v, by simp only [fz]; rw [if_pos (h.1.ids lo)], h.1⟩
    | sl k id m len cs hk hr hg hl =>
      have hlo := F.lo id k hk
      have hpos := T.pos k
      have hone := T.one k
      have hcells := F.cells id k cs hk hg
      generalize hsz : (T.of k).cs.length = sz at *
      have hmul : (m + len) * sz = m * sz + len * sz := Nat.add_mul m len sz
      obtain ⟨us, h1, h2, h3⟩ := mapO_some (f := fz lo hp r) (fun j u => ∀ t, (T.of k).cs[j % sz]? = some t → Fr T t u) (((cs.drop (m * sz)).take (len * sz)).map (·.1)) 0 fun j w hw => by
        rw [List.getElem?_map] at hw
        obtain ⟨c, hc, rfl⟩ := Option.map_eq_some_iff.1 hw
        rw [List.getElem?_take] at hc
        split at hc
        · rename_i hj
          rw [List.getElem?_drop] at hc
          obtain ⟨t, ht⟩ : ∃ t, (T.of k).cs[j % sz]? = some t := ⟨_, List.getElem?_eq_getElem (by rw [hsz]; exact Nat.mod_lt _ hpos)⟩
          have hv := hcells (m * sz + j) c t hc (by rw [Nat.mul_add_mod_self_right]; exact ht)
          obtain ⟨u, q1, q2⟩ := ih t c.1 (hv.up (by omega))
          exact ⟨u, q1, fun t' ht' => by rw [Nat.zero_add, ht] at ht'; injection ht' with e; subst e; exact q2⟩
        · cases hc
      have hlen : us.length = len * sz := by
        rw [h2, List.length_map, List.length_take, List.length_drop]; omega
      refine ⟨.lst (chop (T.of k).ag sz len us), ?_, ?_⟩
      · have e : fz lo hp (r + 1) (.sl id (m * sz) len sz (T.of k).ag) = fzv lo hp (fz lo hp r) (.sl id (m * sz) len sz (T.of k).ag) := by
          rw [fz]
          rw [if_neg (by simp only [idsLt_sl, decide_eq_true_eq]; omega)]
        rw [e, fzv]
        simp only [hg]
        rw [if_pos ⟨hlo, hpos, by cases h : (T.of k).ag <;> simp [hone, h], by omega⟩, h1]
        rfl
      · have key : ∀ x, x ∈ chop (T.of k).ag sz len us → x.flat.length = sz ∧ (if (T.of k).ag then ∃ cs, x = .agg cs else x.one = true) ∧ ∀ (j : Nat) c u, (T.of k).cs[j]? = some c → x.flat[j]? = some u → Fr T c u := by
          intro x hx
          unfold chop at hx
          cases hag : (T.of k).ag with
          | true =>
            rw [hag, if_pos rfl] at hx
            obtain ⟨i, hi, rfl⟩ := chunks_mem len us x hlen hx
            have hm : i * sz + sz ≤ len * sz := by rw [← Nat.succ_mul]; exact Nat.mul_le_mul_right sz hi
            refine ⟨by simp only [AVal.flat, List.length_take, List.length_drop]; omega, by simp, fun j c u hc hu => ?_⟩
            have hj : j < sz := by rw [← hsz]; exact (List.getElem?_eq_some_iff.1 hc).1
            simp only [AVal.flat] at hu
            rw [List.getElem?_take, if_pos hj, List.getElem?_drop] at hu
            have := h3 (i * sz + j) u hu c
            rw [Nat.zero_add, Nat.mul_add_mod_self_right, Nat.mod_eq_of_lt hj] at this
            exact this hc
          | false =>
            rw [hag] at hx
            simp only [Bool.false_eq_true, if_false] at hx
            have hz := hone hag
            obtain ⟨i, hi, he⟩ := List.getElem_of_mem hx
            have hu := h3 i x (by rw [List.getElem?_eq_getElem hi, he])
            rw [hz, Nat.mod_one] at hu
            have hfr := hu _ (List.getElem?_eq_getElem (show 0 < (T.of k).cs.length by omega))
            have hflat : x.flat = [x] := by
              have := hfr.one
              cases x <;> first | rfl | exact Bool.noConfusion this
            refine ⟨by rw [hflat]; simp [hz], by simpa using hfr.one, fun j c u hc hj => ?_⟩
            rw [hflat] at hj
            cases j with
            | zero => simp at hj; subst hj; exact hu c hc
            | succ j => simp at hj
        exact .row k _ (fun x hx => by rw [(key x hx).1, hsz]) (fun x hx => (key x hx).2.1) (fun x hx => (key x hx).2.2)
theorem hv_FZ {T : Recs} {G : Kd} {lo : Nat} {hp : Heap} (F : Forest T G lo hp) {r : Nat} {c : CK} {v : AVal} (h : Hv T G hp r c v) : ∃ u, FZ lo hp v = some u ∧ Fr T c u := by
  obtain ⟨u, h1, h2⟩ := hv_fz F r c v h
  exact ⟨u, FZ_iff.2 ⟨r, h1⟩, h2⟩
/-! ### New variables over old ones -/
def Fresh (n : Nat) (hp : Heap) : Prop := hlow n hp = hp
theorem hget_hlow' (n : Nat) (h : Heap) (j : Nat) : hget (hlow n h) j = if j < n then hget h j else none := by
  induction h with
  | nil => simp [hlow, hget]
  | cons p h ih =>
    obtain ⟨i, b⟩ := p
    rw [hlow_cons]
    split
    · simp only [hget]
      by_cases e : j = i
      · subst e; simp [*]
      · simp [e, ih]
    · rw [ih]
      simp only [hget]
      by_cases e : j = i
      · subst e; simp [*]
      · simp [e]
theorem Fresh.lt {n : Nat} {hp : Heap} (h : Fresh n hp) {j : Nat} {b : ABlk} (hg : hget hp j = some b) : j < n := by
  rw [← h, hget_hlow'] at hg
  split at hg
  · assumption
  · cases hg
theorem hlow_hlow {m n : Nat} (hmn : m ≤ n) (h : Heap) : hlow m (hlow n h) = hlow m h := by
  induction h with
  | nil => rfl
  | cons p h ih =>
    obtain ⟨i, b⟩ := p
    rw [hlow_cons]
    split
    · rw [hlow_cons, hlow_cons, ih]
    · rename_i hn
      rw [hlow_cons, if_neg (by omega), ih]
theorem hlow_hset' (n i : Nat) (b : ABlk) (h : Heap) (hi : n ≤ i) : hlow n (hset h i b) = hlow n h := by
  induction h with
  | nil => rfl
  | cons p h ih =>
    obtain ⟨j, c⟩ := p
    simp only [hset]
    split
    · rename_i e; subst e; rw [hlow_cons, hlow_cons, if_neg (by omega), if_neg (by omega)]
    · rw [hlow_cons, hlow_cons, ih]
theorem Fresh.up {n m : Nat} {hp : Heap} (h : Fresh n hp) (hm : n ≤ m) : Fresh m hp := by
  unfold Fresh at h ⊢
  rw [← h, ← hlow_hlow (Nat.le_refl n) hp]
  have : ∀ hp : Heap, hlow m (hlow n hp) = hlow n hp := by
    intro hp
    induction hp with
    | nil => rfl
    | cons p h ih =>
      obtain ⟨i, b⟩ := p
      rw [hlow_cons]
      split
      · rw [hlow_cons, if_pos (by omega), ih]
      · exact ih
  rw [this]
theorem Fresh.push {n : Nat} {hp : Heap} (h : Fresh n hp) (b : ABlk) : Fresh (n + 1) ((n, b) :: hp) := by
  unfold Fresh
  rw [hlow_cons, if_pos (by omega), h.up (Nat.le_succ n)]
theorem Fresh.hset {n : Nat} {hp : Heap} (h : Fresh n hp) (i : Nat) (b : ABlk) : Fresh n (hset hp i b) := by
  unfold Fresh at h ⊢
  rw [hlow_hset, h]
theorem hlow_hdel (n i : Nat) (h : Heap) : hlow n (hdel h i) = hdel (hlow n h) i := by
  unfold hlow hdel
  rw [List.filter_filter, List.filter_filter]
  congr 1
  funext p
  exact Bool.and_comm _ _
theorem Fresh.hdel {n : Nat} {hp : Heap} (h : Fresh n hp) (i : Nat) : Fresh n (hdel hp i) := by
  unfold Fresh at h ⊢
  rw [hlow_hdel, h]
theorem hlow_hdel' (n i : Nat) (h : Heap) (hi : n ≤ i) : hlow n (hdel h i) = hlow n h := by
  unfold hlow hdel
  rw [List.filter_filter]
  congr 1
  funext p
  by_cases hp : p.1 < n
  · have : (p.1 != i) = true := by simp; omega
    simp [hp, this]
  · simp [hp]
/-- A value in a heap, the variables by their age. -/
inductive Tv (T : Recs) (hp : Heap) (lo : Nat) : Nat → CK → AVal → Prop where
  | fr {r : Nat} {c : CK} {v : AVal} (h : Leaf T c v) : Tv T hp lo r c v
  | sl (r k id m len : Nat) (cs : List Cell) (h0 : lo ≤ id) (hr : id < r) (hg : hget hp id = some (.cells cs)) (hl : (m + len) * (T.of k).cs.length ≤ cs.length) (hm : cs.length ≤ T.most)
      (hc : ∀ (j : Nat) (c : Cell) t, cs[j]? = some c → (T.of k).cs[j % (T.of k).cs.length]? = some t → Tv T hp lo id t c.1) : Tv T hp lo r (.row k) (.sl id (m * (T.of k).cs.length) len (T.of k).cs.length (T.of k).ag)
theorem Tv.keep {T : Recs} {hp hp' : Heap} {lo lo' r r' : Nat} {c : CK} {v : AVal} (h : Tv T hp lo r c v) (hlo : lo' ≤ lo) (hr : r ≤ r') (he : ∀ id, lo ≤ id → id < r → hget hp' id = hget hp id) : Tv T hp' lo' r' c v := by
  induction h generalizing r' with
  | fr h => exact .fr h
  | sl r k id m len cs h0 hr1 hg hl hm hc ih =>
    exact .sl r' k id m len cs (by omega) (by omega) (by rw [he id h0 hr1]; exact hg) hl hm fun j c t h1 h2 => ih j c t h1 h2 (Nat.le_refl _) fun i hi1 hi2 => he i hi1 (by omega)
theorem Tv.one {T : Recs} {hp : Heap} {lo r : Nat} {c : CK} {v : AVal} (h : Tv T hp lo r c v) : v.one = true := by
  cases h with
  | fr h => exact h.1.one
  | sl => rfl
theorem Tv.unS {T : Recs} {hp : Heap} {lo r : Nat} {c : CK} {v : AVal} (h : Tv T hp lo r c v) : unS v = (v, false) := by
  cases h with
  | fr h => exact h.1.unS
  | sl => rfl
/-- Variables by their age are a forest. -/
def Blk (T : Recs) (hp : Heap) (lo : Nat) (k id : Nat) : Prop := lo ≤ id ∧ ∃ cs, hget hp id = some (.cells cs) ∧ cs.length ≤ T.most ∧ ∀ (j : Nat) (c : Cell) t, cs[j]? = some c → (T.of k).cs[j % (T.of k).cs.length]? = some t → Tv T hp lo id t c.1
theorem Tv.blk {T : Recs} {hp : Heap} {lo r k : Nat} {id off len sz : Nat} {ag : Bool} (h : Tv T hp lo r (.row k) (.sl id off len sz ag)) : Blk T hp lo k id ∧ id < r := by
  cases h with
  | fr h => cases h.1
  | sl _ _ _ m _ cs h0 hr hg hl hm hc => exact ⟨⟨h0, cs, hg, hm, hc⟩, hr⟩
def Kd.age (T : Recs) (hp : Heap) (lo : Nat) : Kd := ⟨fun id k => Blk T hp lo k id, fun id => id - lo⟩
theorem Tv.hv {T : Recs} {hp : Heap} {lo r : Nat} {c : CK} {v : AVal} (h : Tv T hp lo r c v) : Hv T (Kd.age T hp lo) hp (r - lo) c v := by
  cases h with
  | fr h => exact .fr h
  | sl _ k id m len cs h0 hr hg hl hm hc => exact .sl k id m len cs ⟨h0, cs, hg, hm, hc⟩ (by show id - lo < r - lo; omega) hg hl
theorem age_forest (T : Recs) (hp : Heap) (lo : Nat) : Forest T (Kd.age T hp lo) lo hp := by
  refine ⟨fun id k h => h.1, fun id k cs hb hg j c t hj ht => ?_⟩
  obtain ⟨_, cs', hg', _, hc⟩ := hb
  rw [hg] at hg'; cases hg'
  exact (hc j c t hj ht).hv
/-! ### Changing a forest -/
theorem Hv.move {T : Recs} {G G' : Kd} {hp hp' : Heap} {r r' : Nat} {c : CK} {v : AVal} (h : Hv T G hp r c v) (hk : ∀ id k cs, G.kind id k → G.rank id < r → hget hp id = some (.cells cs) → G'.kind id k ∧ G'.rank id < r' ∧ ∃ cs', hget hp' id = some (.cells cs') ∧ cs.length ≤ cs'.length) : Hv T G' hp' r' c v := by
  cases h with
  | fr h => exact .fr h
  | sl k id m len cs hk1 hr hg hl =>
    obtain ⟨h1, h2, cs', h3, h4⟩ := hk id k cs hk1 hr hg
    exact .sl k id m len cs' h1 h2 h3 (by omega)
theorem Forest.move {T : Recs} {G : Kd} {lo : Nat} {hp hp' : Heap} (F : Forest T G lo hp) (he : ∀ id k, G.kind id k → hget hp' id = hget hp id) : Forest T G lo hp' := by
  refine ⟨F.lo, fun id k cs hk hg j c t hj ht => ?_⟩
  rw [he id k hk] at hg
  exact (F.cells id k cs hk hg j c t hj ht).move fun id k cs q1 q2 q3 => ⟨q1, q2, cs, by rw [he id k q1]; exact q3, Nat.le_refl _⟩
/-- Cells are written. -/
theorem Forest.set {T : Recs} {G : Kd} {lo : Nat} {hp : Heap} (F : Forest T G lo hp) {p : Nat} {cs : List Cell} (hg : hget hp p = some (.cells cs)) (cs' : List Cell) (hl : cs'.length = cs.length)
    (hc : ∀ k, G.kind p k → ∀ (j : Nat) (c : Cell) t, cs'[j]? = some c → (T.of k).cs[j % (T.of k).cs.length]? = some t → cs[j]? = some c ∨ Hv T G hp (G.rank p) t c.1) : Forest T G lo (hset hp p (.cells cs')) := by
  have mv : ∀ {r : Nat} {c : CK} {v : AVal}, Hv T G hp r c v → Hv T G (hset hp p (.cells cs')) r c v := fun h => h.move fun id k cs0 q1 q2 q3 => by
    by_cases e : id = p
    · subst e
      rw [hg] at q3; cases q3
      exact ⟨q1, q2, cs', by rw [hget_hset, if_pos rfl, hg]; rfl, by omega⟩
    · exact ⟨q1, q2, cs0, by rw [hget_hset, if_neg e]; exact q3, Nat.le_refl _⟩
  refine ⟨F.lo, fun id k cs0 hk hg0 j c t hj ht => ?_⟩
  rw [hget_hset] at hg0
  split at hg0
  · rename_i e
    subst e
    rw [hg] at hg0
    cases hg0
    rcases hc k hk j c t hj ht with h | h
    · exact mv (F.cells id k cs hk hg j c t h ht)
    · exact mv h
  · exact mv (F.cells id k cs0 hk hg0 j c t hj ht)
/-- A new variable between p and what it leads to. -/
def Kd.between (G : Kd) (n p k0 : Nat) : Kd := ⟨fun id k => (id = n ∧ k = k0) ∨ (id ≠ n ∧ G.kind id k), fun id => if id = n then 2 * G.rank p else 2 * G.rank id + 1⟩
theorem Hv.between {T : Recs} {G : Kd} {hp : Heap} {r : Nat} {c : CK} {v : AVal} (h : Hv T G hp r c v) {n p k0 : Nat} (hn : hget hp n = none) (b : ABlk) : Hv T (G.between n p k0) ((n, b) :: hp) (2 * r) c v := by
  refine h.move fun id k cs q1 q2 q3 => ?_
  have hne : id ≠ n := fun e => by subst e; rw [hn] at q3; cases q3
  exact ⟨.inr ⟨hne, q1⟩, by show (if id = n then _ else _) < _; rw [if_neg hne]; omega, cs, by rw [hget_cons, if_neg hne]; exact q3, Nat.le_refl _⟩
theorem Forest.between {T : Recs} {G : Kd} {lo : Nat} {hp : Heap} (F : Forest T G lo hp) {n p k0 : Nat} (hlo : lo ≤ n) (hn : hget hp n = none) {cs : List Cell} (hc : ∀ (j : Nat) (c : Cell) t, cs[j]? = some c → (T.of k0).cs[j % (T.of k0).cs.length]? = some t → Hv T G hp (G.rank p) t c.1) :
    Forest T (G.between n p k0) lo ((n, .cells cs) :: hp) := by
  refine ⟨fun id k hk => ?_, fun id k cs0 hk hg j c t hj ht => ?_⟩
  · rcases hk with ⟨rfl, _⟩ | ⟨_, h⟩
    · exact hlo
    · exact F.lo id k h
  · rcases hk with ⟨rfl, rfl⟩ | ⟨hne, hk⟩
    · rw [hget_same] at hg; cases hg
      have := (hc j c t hj ht).between (p := p) (k0 := k) hn (.cells cs)
      have e : (G.between id p k).rank id = 2 * G.rank p := if_pos rfl
      rw [e]; exact this
    · rw [hget_cons, if_neg hne] at hg
      have := (F.cells id k cs0 hk hg j c t hj ht).between (p := p) (k0 := k0) hn (.cells cs)
      have e : (G.between n p k0).rank id = 2 * G.rank id + 1 := if_neg hne
      rw [e]; exact this.up (by omega)
/-- Records are frozen. -/
theorem agg_FZ {T : Recs} {G : Kd} {lo : Nat} {hp : Heap} (F : Forest T G lo hp) (r : Nat) (cs : List AVal) (ts : List CK) (hl : cs.length = ts.length) (h : ∀ (i : Nat) c t, cs[i]? = some c → ts[i]? = some t → Hv T G hp r t c) : ∃ us, FZ lo hp (.agg cs) = some (.agg us) ∧ us.length = cs.length ∧ ∀ (i : Nat) u t, us[i]? = some u → ts[i]? = some t → Fr T t u := by
  obtain ⟨us, h1, h2, h3⟩ := mapO_some (f := fz lo hp r) (fun i u => ∀ t, ts[i]? = some t → Fr T t u) cs 0 fun j v hv => by
    obtain ⟨t, ht⟩ : ∃ t, ts[j]? = some t := ⟨_, List.getElem?_eq_getElem (by rw [← hl]; exact (List.getElem?_eq_some_iff.1 hv).1)⟩
    obtain ⟨u, q1, q2⟩ := hv_fz F r t v (h j v t hv ht)
    exact ⟨u, q1, fun t' ht' => by rw [Nat.zero_add, ht] at ht'; cases ht'; exact q2⟩
  by_cases hi : (AVal.agg cs).idsLt lo = true
  · refine ⟨cs, FZ_low hi, rfl, fun i u t hu ht => ?_⟩
    obtain ⟨u', q1, q2⟩ := hv_fz F r t u (h i u t hu ht)
    have hu' : u.idsLt lo = true := by
      simp only [idsLt_agg] at hi
      exact idsLts_mem hi u (List.mem_of_getElem? hu)
    have : u' = u := by
      cases r with
      | zero => simp only [fz] at q1; rw [if_pos hu'] at q1; cases q1; rfl
      | succ r => simp only [fz] at q1; rw [if_pos hu'] at q1; cases q1; rfl
    rw [← this]; exact q2
  · refine ⟨us, FZ_iff.2 ⟨r + 1, ?_⟩, h2, fun i u t hu ht => by have := h3 i u hu t; rw [Nat.zero_add] at this; exact this ht⟩
    have e : fz lo hp (r + 1) (.agg cs) = fzv lo hp (fz lo hp r) (.agg cs) := by rw [fz, if_neg hi]
    rw [e, fzv, h1]; rfl
theorem hclean_hlow (n : Nat) (h : Heap) : hclean n (hlow n h) = hclean n h := by
  induction h with
  | nil => rfl
  | cons p h ih =>
    obtain ⟨i, b⟩ := p
    rw [hlow_cons, hclean_cons]
    split
    · rw [hclean_cons, ih]
    · rename_i hn
      rw [ih]
      simp [hn]
end Go.Proofs.YtkpfkadjmijmlaaGreatDoor.M
/- Expressions as values of the machine. -/
namespace Go.Proofs.YtkpfkadjmijmlaaGreatDoor.M
open Go.Proofs Go.Proofs.YtkpfkadjmijmlaaGreatDoor.X
set_option linter.unusedSimpArgs false
set_option linter.unusedVariables false
mutual
def encX : Ex → AVal
  | .mk o n s a => .agg [.int .i64 o, .int .i64 n, .str s, .lst (encXs a)]
def encXs : List Ex → List AVal
  | [] => []
  | x :: r => encX x :: encXs r
end
theorem encX_eq (x : Ex) : encX x = .agg [.int .i64 x.op, .int .i64 x.n, .str x.name, .lst (encXs x.args)] := by cases x; rw [encX]; rfl
theorem encXs_eq (l : List Ex) : encXs l = l.map encX := by induction l with | nil => rfl | cons x r ih => simp [encXs, ih]
mutual
theorem encX_ids (n : Nat) : ∀ x : Ex, (encX x).idsLt n = true
  | .mk o m s a => by rw [encX]; simp [encXs_ids n a]
theorem encXs_ids (n : Nat) : ∀ l : List Ex, idsLts n (encXs l) = true
  | [] => by rw [encXs]; simp
  | x :: r => by rw [encXs]; simp [encX_ids n x, encXs_ids n r]
end
attribute [simp] encX_ids encXs_ids
@[simp] theorem encX_flat (x : Ex) : (encX x).flat = [.int .i64 x.op, .int .i64 x.n, .str x.name, .lst (encXs x.args)] := by rw [encX_eq]; rfl
@[simp] theorem encXs_len (l : List Ex) : (encXs l).length = l.length := by rw [encXs_eq, List.length_map]
@[simp] theorem encXs_head (l : List Ex) : headOk (encXs l) 4 = true := by cases l with | nil => rfl | cons x r => simp [encXs]
theorem encXs_at {l : List Ex} {k : Nat} {x : Ex} (h : l[k]? = some x) : (encXs l)[k]? = some (encX x) := by rw [encXs_eq, List.getElem?_map, h]; rfl
theorem encXs_app (l r : List Ex) : encXs (l ++ r) = encXs l ++ encXs r := by simp [encXs_eq]
theorem args_lt {x y : Ex} (h : y ∈ x.args) : SizeOf.sizeOf y < SizeOf.sizeOf x := by
  have h1 := List.sizeOf_lt_of_mem h
  cases x
  simp [Ex.args] at h1 ⊢
  omega
def exprT : Recs := ⟨fun _ => ⟨true, [.int, .int, .str, .row 0]⟩, fun _ => true, 100, fun _ => by decide, fun _ h => by cases h⟩
theorem fr_int {T : Recs} {v : AVal} (h : Fr T .int v) : ∃ n, v = .int .i64 n := by cases h; exact ⟨_, rfl⟩
theorem fr_str {T : Recs} {v : AVal} (h : Fr T .str v) : ∃ n, v = .str n := by cases h; exact ⟨_, rfl⟩
theorem fr_row {c : CK} {v : AVal} (h : Fr exprT c v) : ∀ k, c = .row k → ∃ l, v = .lst (encXs l) := by
  induction h with
  | int n => intro k e; cases e
  | bool b => intro k e; cases e
  | str s => intro k e; cases e
  | row k xs hl ha h ih =>
    intro k' _
    have : ∀ x, x ∈ xs → ∃ y, x = encX y := by
      intro x hx
      obtain ⟨cs, rfl⟩ := ha x hx
      have hlen : cs.length = 4 := hl _ hx
      have at_ : ∀ i t, i < 4 → (exprT.of k).cs[i]? = some t → ∃ u, cs[i]? = some u ∧ Fr exprT t u := fun i t hi ht => by
        have hc : cs[i]? = some (cs[i]'(by omega)) := List.getElem?_eq_getElem (by omega)
        exact ⟨_, hc, h _ hx i t _ ht hc⟩
      obtain ⟨u0, e0, h0⟩ := at_ 0 .int (by omega) rfl
      obtain ⟨u1, e1, h1⟩ := at_ 1 .int (by omega) rfl
      obtain ⟨u2, e2, h2⟩ := at_ 2 .str (by omega) rfl
      obtain ⟨u3, e3, h3⟩ := at_ 3 (.row 0) (by omega) rfl
      obtain ⟨l, hl3⟩ := ih _ hx 3 (.row 0) u3 rfl e3 0 rfl
      obtain ⟨o, rfl⟩ := fr_int h0
      obtain ⟨n, rfl⟩ := fr_int h1
      obtain ⟨s, rfl⟩ := fr_str h2
      subst hl3
      refine ⟨.mk o n s l, ?_⟩
      rw [encX]
      congr 1
      refine List.ext_getElem? fun i => ?_
      match i with
      | 0 => exact e0
      | 1 => exact e1
      | 2 => exact e2
      | 3 => exact e3
      | i + 4 => rw [List.getElem?_eq_none (by omega)]; rfl
    clear ih h ha hl
    induction xs with
    | nil => exact ⟨[], rfl⟩
    | cons x r ihr =>
      obtain ⟨y, rfl⟩ := this x (.head _)
      obtain ⟨l, hl⟩ := ihr fun z hz => this z (.tail _ hz)
      injection hl with hl
      exact ⟨y :: l, by rw [hl, encXs]⟩
end Go.Proofs.YtkpfkadjmijmlaaGreatDoor.M
/- exprFault, as the program has it and as the reference has it. -/
namespace Go.Proofs.YtkpfkadjmijmlaaGreatDoor.M
open Go.Proofs Go.Proofs.YtkpfkadjmijmlaaGreatDoor.X
set_option linter.unusedSimpArgs false
set_option linter.unusedVariables false
set_option maxRecDepth 100000
set_option pp.deepTerms false
set_option pp.deepTerms.threshold 6
set_option maxHeartbeats 4000000
def outside (x lo hi : Int) : Bool := decide (x < lo) || decide (x > hi)
@[simp] theorem outside_R (x lo hi : Int) (ro nx : Nat) (hp : Heap) : R K 86 [.int .i64 x, .int .i64 lo, .int .i64 hi] ro nx hp = some ⟨.bool (outside x lo hi), false, nx, hp⟩ := by
  rw [R_val' K ro 86 _ nx hp [] Tryz.func86 rfl Tryz.ntmps86 Tryz.results86 (mu := []) rfl (by kernel_rfl) rfl rfl rfl]; simp only [slim, slimO, annO, List.map, List.zip, List.zipWith, List.lookup, holed, Nat.reduceBEq]
  by_cases h1 : x < lo
  all_goals
    simp [List.replicate, h1, outside]
def within (x lo hi : Int) : Bool := decide (lo ≤ x) && decide (x ≤ hi)
theorem within_not (x lo hi : Int) : within x lo hi = !outside x lo hi := by
  unfold within outside
  by_cases h1 : x < lo
  · have h2 : ¬ lo ≤ x := by omega
    simp [h1, h2]
  · by_cases h2 : x > hi
    · have h3 : ¬ x ≤ hi := by omega
      simp [h2, h3]
    · simp [h1, h2, show lo ≤ x by omega, show x ≤ hi by omega]
@[simp] theorem in2_R (x lo hi : Int) (ro nx : Nat) (hp : Heap) : R K 53 [.int .i64 x, .int .i64 lo, .int .i64 hi] ro nx hp = some ⟨.bool (within x lo hi), false, nx, hp⟩ := by
  rw [R_val' K ro 53 _ nx hp [] Tryz.func53 rfl Tryz.ntmps53 Tryz.results53 (mu := []) rfl (by kernel_rfl) rfl rfl rfl]; simp only [slim, slimO, annO, List.map, List.zip, List.zipWith, List.lookup, holed, Nat.reduceBEq]
  by_cases h1 : lo ≤ x
  all_goals
    simp [List.replicate, h1, within]
@[simp] theorem in1_R (x lo hi : Int) (ro nx : Nat) (hp : Heap) : R K 82 [.int .i64 x, .int .i64 lo, .int .i64 hi] ro nx hp = some ⟨.bool (within x lo hi), false, nx, hp⟩ := by
  rw [R_val' K ro 82 _ nx hp [] Tryz.func82 rfl Tryz.ntmps82 Tryz.results82 (mu := []) rfl (by kernel_rfl) rfl rfl rfl]; simp only [slim, slimO, annO, List.map, List.zip, List.zipWith, List.lookup, holed, Nat.reduceBEq]
  by_cases h1 : lo ≤ x
  all_goals
    simp [List.replicate, h1, within]
@[simp] theorem arity_R (op : Int) (ro nx : Nat) (hp : Heap) : R K 47 [.int .i64 op] ro nx hp = some ⟨.int .i64 (arityF op), false, nx, hp⟩ := by
  rw [R_val' K ro 47 _ nx hp [] Tryz.func47 rfl Tryz.ntmps47 Tryz.results47 (mu := []) rfl (by kernel_rfl) rfl rfl rfl]; simp only [slim, slimO, annO, List.map, List.zip, List.zipWith, List.lookup, holed, Nat.reduceBEq]
  have e : arityF op = if outside op 1 9 then -1 else if op ≤ 2 then 0 else if op = 8 then 1 else if op = 9 then 3 else 2 := by
    unfold arityF outside
    by_cases h : 1 ≤ op ∧ op ≤ 9
    · have : ¬ op < 1 := by omega
      have : ¬ op > 9 := by omega
      simp [*]
    · rw [if_pos h, if_pos]
      simp
      omega
  cases h1 : outside op 1 9
  · by_cases h2 : op ≤ 2
    · simp [List.replicate, h1, h2, e]
    · by_cases h3 : op = 8
      · subst h3; simp [List.replicate, h1, e]
      · by_cases h4 : op = 9
        · subst h4; simp [List.replicate, h1, e]
        · simp [List.replicate, h1, h2, h3, h4, e]
  · simp [List.replicate, h1, e]
@[simp] theorem arity2_R (op : Int) (ro nx : Nat) (hp : Heap) : R K 81 [.int .i64 op] ro nx hp = some ⟨.int .i64 (arityF op), false, nx, hp⟩ := by
  rw [R_val' K ro 81 _ nx hp [] Tryz.func81 rfl Tryz.ntmps81 Tryz.results81 (mu := []) rfl (by kernel_rfl) rfl rfl rfl]; simp only [slim, slimO, annO, List.map, List.zip, List.zipWith, List.lookup, holed, Nat.reduceBEq]
  by_cases h : 1 ≤ op ∧ op ≤ 9
  · have h1 : within op 1 9 = true := by simp [within, h]
    have hw : IntKind.i64.wrap (op - 1) = op - 1 := wrap_small (by omega) (by omega)
    have h0 : (1 : Int) ≤ op := h.1
    obtain ⟨k, hk⟩ : ∃ k : Nat, op - 1 = k := ⟨_, (Int.toNat_of_nonneg (by omega)).symm⟩
    have hk9 : k ≤ 8 := by omega
    have ho : op = k + 1 := by omega
    subst ho
    match k, hk9 with
    | 0, _ => simp [List.replicate, within, arityF, show IntKind.i64.wrap 0 = 0 by decide]
    | 1, _ => simp [List.replicate, within, arityF, show IntKind.i64.wrap 1 = 1 by decide]
    | 2, _ => simp [List.replicate, within, arityF, show IntKind.i64.wrap 2 = 2 by decide]
    | 3, _ => simp [List.replicate, within, arityF, show IntKind.i64.wrap 3 = 3 by decide]
    | 4, _ => simp [List.replicate, within, arityF, show IntKind.i64.wrap 4 = 4 by decide]
    | 5, _ => simp [List.replicate, within, arityF, show IntKind.i64.wrap 5 = 5 by decide]
    | 6, _ => simp [List.replicate, within, arityF, show IntKind.i64.wrap 6 = 6 by decide]
    | 7, _ => simp [List.replicate, within, arityF, show IntKind.i64.wrap 7 = 7 by decide]
    | 8, _ => simp [List.replicate, within, arityF, show IntKind.i64.wrap 8 = 8 by decide]
  · have h1 : within op 1 9 = false := by
      simp only [within, Bool.and_eq_false_iff, decide_eq_false_iff_not]; omega
    simp [List.replicate, h1, arityF, h]
theorem arity_le (o : Int) : arityF o ≤ 3 := by unfold arityF; repeat' split <;> omega
def LoopF (len t id : Nat) (f : Int) (r : Option (AExit × St)) : Prop := ∃ s, r = some (if f = 0 then .exit id else .ret, s) ∧ s.tm.length = len ∧ (f ≠ 0 → getC s.tm t = (.int .i64 f, false))
theorem exprFault_loop (d : Int) (hd : 0 ≤ d ∧ d ≤ 20) (l : List Ex) (hl : l.length < 100) (ih : ∀ x ∈ l, ∀ ro nx hp, R K 66 [encX x, .int .i64 (d + 1)] ro nx hp = some ⟨.int .i64 (exF x (d + 1)), false, nx, hp⟩) : ∀ (n k : Nat) (tm : List Cell) (nx : Nat) (hp : Heap), n + k = l.length → tm.length = 73 → getC tm 1 = (.int .i64 d, false) → getC tm 59 = (.lst (encXs l), false) → getC tm 60 = (.int .i64 l.length, false) → getC tm 61 = (.int .i64 k, false) →
    LoopF 73 4 1 (exsF (l.drop k) (d + 1)) (X K ⟨0, []⟩ (.loop (LB Tryz.prog 66 [] 0)) ⟨tm, nx, hp⟩) := by
  have e := LB_open (P := Tryz.prog) [] 0 Tryz.func66 rfl rfl (by kernel_rfl)
  simp only [slim, slimO, annO, List.map, List.zip, List.zipWith, List.lookup, holed, loopsOf, List.nil_append, List.cons_append, List.getD_cons_zero, List.getD_cons_succ, Nat.reduceBEq] at e
  intro n
  induction n with
  | zero =>
    intro k tm nx hp hk ht h1 h59 h60 h61
    rw [List.drop_eq_nil_of_le (by omega), Y_loop_eq _ _ e]
    clear e
    have hkl : ¬ (k : Int) < l.length := by omega
    generalize hb : X K _ _ _ = r
    simp [ht, h60, h61, hkl] at hb
    subst hb
    exact ⟨_, rfl, by simp [ht], fun h => absurd (by simp [exsF]) h⟩
  | succ n ihn =>
    intro k tm nx hp hk ht h1 h59 h60 h61
    have hx := List.getElem?_eq_getElem (l := l) (i := k) (by omega)
    rw [List.drop_eq_getElem_cons (by omega), Y_loop_eq _ _ e]
    clear e
    generalize l[k] = x at hx
    have hkl : (k : Int) < l.length := by omega
    have hxe := encXs_at hx
    have hw1 : IntKind.i64.wrap (d + 1) = d + 1 := wrap_small (by omega) (by omega)
    have hw2 : IntKind.i64.wrap ((k : Int) + 1) = (k : Int) + 1 := wrap_small (by omega) (by omega)
    have hxm := ih x (List.mem_of_getElem? hx)
    rw [encX_eq] at hxm hxe
    generalize hb : X K _ _ _ = r
    by_cases h0 : exF x (d + 1) = 0
    · simp [ht, h1, h59, h60, h61, hkl, hxe, hw1, hw2, hxm, h0] at hb
      subst hb
      rw [XK_normal, exsF, if_pos h0]
      exact ihn (k + 1) _ _ _ (by omega) (by simp [ht]) (by simp [h1]) (by simp [h59]) (by simp [h60]) (by simp [ht])
    · simp [ht, h1, h59, h60, h61, hkl, hxe, hw1, hw2, hxm, h0] at hb
      subst hb
      rw [XK_ret, exsF, if_neg h0]
      exact ⟨_, by rw [if_neg h0], by simp [ht], fun _ => by simp [ht]⟩
theorem exprFault_R : ∀ (m : Nat) (x : Ex), SizeOf.sizeOf x < m → ∀ (d : Int), 0 ≤ d ∧ d ≤ 21 → ∀ (ro nx : Nat) (hp : Heap), R K 66 [encX x, .int .i64 d] ro nx hp = some ⟨.int .i64 (exF x d), false, nx, hp⟩ := by
  intro m
  induction m with
  | zero => intro x hx; omega
  | succ m ihm =>
    intro x hx d hd ro nx hp
    have hloop : d ≤ 20 → (x.args.length : Int) = arityF x.op → ∀ (tm : List Cell) (nx' : Nat) (hp' : Heap), tm.length = 73 → getC tm 1 = (.int .i64 d, false) → getC tm 59 = (.lst (encXs x.args), false) → getC tm 60 = (.int .i64 x.args.length, false) → getC tm 61 = (.int .i64 0, false) →
        LoopF 73 4 1 (exsF x.args (d + 1)) (X K ⟨0, []⟩ (.loop (LB Tryz.prog 66 [] 0)) ⟨tm, nx', hp'⟩) := fun hd' hl tm nx' hp' a b c e f => by
      have h3 := arity_le x.op
      have := exprFault_loop d ⟨hd.1, hd'⟩ x.args (by omega) (fun y hy => ihm y (by have := args_lt hy; omega) (d + 1) (by omega)) x.args.length 0 tm nx' hp' rfl a b c e f
      simpa using this
    rw [R_val' K ro 66 _ nx hp [] Tryz.func66 rfl Tryz.ntmps66 Tryz.results66 (mu := []) rfl (by kernel_rfl) rfl rfl rfl]; simp only [slim, slimO, annO, List.map, List.zip, List.zipWith, List.lookup, holed, Nat.reduceBEq]
    simp [List.replicate, encX_eq, encXs_len]
    iterate 8 all_goals (try (split <;> simp [*]))
    all_goals (try (rw [exF_eq]; unfold exOwn; (try simp only [within_not, outside] at *); grind))
    all_goals
      generalize hb : X K _ (.loop _) _ = r
      have hk : LoopF 73 4 1 (exsF x.args (d + 1)) r := by
        rw [← hb]
        exact hloop (by omega) (by assumption) _ _ _ (by simp) (by simp) (by simp) (by simp [*]) (by simp)
      obtain ⟨⟨tm', nx', hp'⟩, rfl, h1, h2⟩ := hk
      simp only at h1 h2
      clear hb
      by_cases h0 : exsF x.args (d + 1) = 0
      · have : exF x d = 0 := by rw [exF_eq]; unfold exOwn; (try simp only [within_not, outside] at *); grind
        simp [h0, h1, this]
      · have : exF x d = exsF x.args (d + 1) := by rw [exF_eq]; unfold exOwn; (try simp only [within_not, outside] at *); grind
        simp [h0, h1, h2 h0, this]
@[simp] theorem checkExpr_R (x : Ex) (ro nx : Nat) (hp : Heap) : R K 26 [encX x] ro nx hp = some ⟨.int .i64 (exF x 1), false, nx, hp⟩ := by
  have h := fun ro nx hp => exprFault_R (SizeOf.sizeOf x + 1) x (by omega) 1 (by omega) ro nx hp
  rw [R_val' K ro 26 _ nx hp [] Tryz.func26 rfl Tryz.ntmps26 Tryz.results26 (mu := []) rfl (by kernel_rfl) rfl rfl rfl]; simp only [slim, slimO, annO, List.map, List.zip, List.zipWith, List.lookup, holed, Nat.reduceBEq]
  simp only [encX_eq] at h
  simp [List.replicate, encX_eq, h]
theorem exprFault2_loop (d : Int) (hd : 0 ≤ d ∧ d ≤ 20) (l : List Ex) (hl : l.length < 100) (ih : ∀ x ∈ l, ∀ ro nx hp, R K 41 [encX x, .int .i64 (d + 1)] ro nx hp = some ⟨.int .i64 (exF x (d + 1)), false, nx, hp⟩) : ∀ (n k : Nat) (tm : List Cell) (nx : Nat) (hp : Heap), n + k = l.length → tm.length = 74 → getC tm 1 = (.int .i64 d, false) → getC tm 60 = (.lst (encXs l), false) → getC tm 61 = (.int .i64 l.length, false) → getC tm 62 = (.int .i64 k, false) →
    LoopF 74 4 1 (exsF (l.drop k) (d + 1)) (X K ⟨0, []⟩ (.loop (LB Tryz.prog 41 [] 0)) ⟨tm, nx, hp⟩) := by
  have e := LB_open (P := Tryz.prog) [] 0 Tryz.func41 rfl rfl (by kernel_rfl)
  simp only [slim, slimO, annO, List.map, List.zip, List.zipWith, List.lookup, holed, loopsOf, List.nil_append, List.cons_append, List.getD_cons_zero, List.getD_cons_succ, Nat.reduceBEq] at e
  intro n
  induction n with
  | zero =>
    intro k tm nx hp hk ht h1 h59 h60 h61
    rw [List.drop_eq_nil_of_le (by omega), Y_loop_eq _ _ e]
    clear e
    have hkl : ¬ (k : Int) < l.length := by omega
    generalize hb : X K _ _ _ = r
    simp [ht, h60, h61, hkl] at hb
    subst hb
    exact ⟨_, rfl, by simp [ht], fun h => absurd (by simp [exsF]) h⟩
  | succ n ihn =>
    intro k tm nx hp hk ht h1 h59 h60 h61
    have hx := List.getElem?_eq_getElem (l := l) (i := k) (by omega)
    rw [List.drop_eq_getElem_cons (by omega), Y_loop_eq _ _ e]
    clear e
    generalize l[k] = x at hx
    have hkl : (k : Int) < l.length := by omega
    have hxe := encXs_at hx
    have hw1 : IntKind.i64.wrap (d + 1) = d + 1 := wrap_small (by omega) (by omega)
    have hw2 : IntKind.i64.wrap ((k : Int) + 1) = (k : Int) + 1 := wrap_small (by omega) (by omega)
    have hxm := ih x (List.mem_of_getElem? hx)
    rw [encX_eq] at hxm hxe
    generalize hb : X K _ _ _ = r
    by_cases h0 : exF x (d + 1) = 0
    · simp [ht, h1, h59, h60, h61, hkl, hxe, hw1, hw2, hxm, h0] at hb
      subst hb
      rw [XK_normal, exsF, if_pos h0]
      exact ihn (k + 1) _ _ _ (by omega) (by simp [ht]) (by simp [h1]) (by simp [h59]) (by simp [h60]) (by simp [ht])
    · simp [ht, h1, h59, h60, h61, hkl, hxe, hw1, hw2, hxm, h0] at hb
      subst hb
      rw [XK_ret, exsF, if_neg h0]
      exact ⟨_, by rw [if_neg h0], by simp [ht], fun _ => by simp [ht]⟩
theorem exprFault2_R : ∀ (m : Nat) (x : Ex), SizeOf.sizeOf x < m → ∀ (d : Int), 0 ≤ d ∧ d ≤ 21 → ∀ (ro nx : Nat) (hp : Heap), R K 41 [encX x, .int .i64 d] ro nx hp = some ⟨.int .i64 (exF x d), false, nx, hp⟩ := by
  intro m
  induction m with
  | zero => intro x hx; omega
  | succ m ihm =>
    intro x hx d hd ro nx hp
    have hloop : d ≤ 20 → (x.args.length : Int) = arityF x.op → ∀ (tm : List Cell) (nx' : Nat) (hp' : Heap), tm.length = 74 → getC tm 1 = (.int .i64 d, false) → getC tm 60 = (.lst (encXs x.args), false) → getC tm 61 = (.int .i64 x.args.length, false) → getC tm 62 = (.int .i64 0, false) →
        LoopF 74 4 1 (exsF x.args (d + 1)) (X K ⟨0, []⟩ (.loop (LB Tryz.prog 41 [] 0)) ⟨tm, nx', hp'⟩) := fun hd' hl tm nx' hp' a b c e f => by
      have h3 := arity_le x.op
      have := exprFault2_loop d ⟨hd.1, hd'⟩ x.args (by omega) (fun y hy => ihm y (by have := args_lt hy; omega) (d + 1) (by omega)) x.args.length 0 tm nx' hp' rfl a b c e f
      simpa using this
    rw [R_val' K ro 41 _ nx hp [] Tryz.func41 rfl Tryz.ntmps41 Tryz.results41 (mu := []) rfl (by kernel_rfl) rfl rfl rfl]; simp only [slim, slimO, annO, List.map, List.zip, List.zipWith, List.lookup, holed, Nat.reduceBEq]
    simp [List.replicate, encX_eq, encXs_len]
    iterate 8 all_goals (try (split <;> simp [*]))
    all_goals (try (rw [exF_eq]; unfold exOwn; (try simp only [within_not, outside] at *); grind))
    all_goals
      generalize hb : X K _ (.loop _) _ = r
      have hk : LoopF 74 4 1 (exsF x.args (d + 1)) r := by
        rw [← hb]
        exact hloop (by omega) (by assumption) _ _ _ (by simp) (by simp) (by simp) (by simp [*]) (by simp)
      obtain ⟨⟨tm', nx', hp'⟩, rfl, h1, h2⟩ := hk
      simp only at h1 h2
      clear hb
      by_cases h0 : exsF x.args (d + 1) = 0
      · have : exF x d = 0 := by rw [exF_eq]; unfold exOwn; (try simp only [within_not, outside] at *); grind
        simp [h0, h1, this]
      · have : exF x d = exsF x.args (d + 1) := by rw [exF_eq]; unfold exOwn; (try simp only [within_not, outside] at *); grind
        simp [h0, h1, h2 h0, this]
@[simp] theorem exprFaultQ_R (x : Ex) (ro nx : Nat) (hp : Heap) : R K 8 [encX x] ro nx hp = some ⟨.int .i64 (exF x 1), false, nx, hp⟩ := by
  have h := fun ro nx hp => exprFault2_R (SizeOf.sizeOf x + 1) x (by omega) 1 (by omega) ro nx hp
  rw [R_val' K ro 8 _ nx hp [] Tryz.func8 rfl Tryz.ntmps8 Tryz.results8 (mu := []) rfl (by kernel_rfl) rfl rfl rfl]; simp only [slim, slimO, annO, List.map, List.zip, List.zipWith, List.lookup, holed, Nat.reduceBEq]
  simp only [encX_eq] at h
  simp [List.replicate, encX_eq, h]
end Go.Proofs.YtkpfkadjmijmlaaGreatDoor.M
/- What is shared: right expressions, cmp.Or, closed runs. -/
namespace Go.Proofs.YtkpfkadjmijmlaaGreatDoor.M
open Go.Proofs Go.Proofs.YtkpfkadjmijmlaaGreatDoor.X
set_option linter.unusedSimpArgs false
set_option linter.unusedVariables false
set_option maxRecDepth 100000
set_option pp.deepTerms false
set_option pp.deepTerms.threshold 6
set_option maxHeartbeats 4000000
theorem ext_open {f : FuncId} {args : List AVal} {ro nx : Nat} {hp : Heap} {r : Res} (hp0 : K.pure f = false) (ht : K.tidy f = false) (h : K.ext f args ro nx hp = some r) : R K f args ro nx hp = some r := by
  have hv : K.vl f = false := by unfold Cfg.vl; rw [hp0, Bool.and_false]
  have hl : low K f ro nx = ro := by unfold low; rw [if_neg (by rw [hp0]; decide)]
  rw [R_eq]
  unfold vlc Fin core
  rw [if_neg (by rw [hv]; decide)]
  dsimp only
  rw [if_neg (by rw [hp0]; decide), if_neg (by rw [ht]; decide), hl, h]
theorem ext_still {f : FuncId} {args : List AVal} {ro nx : Nat} {hp : Heap} {a : AVal} (hv : K.vl f = false) (hp0 : K.pure f = true) (h : K.ext f args nx nx hp = some ⟨a, false, nx, hp⟩) (ha : a.idsLt nx = true) : R K f args ro nx hp = some ⟨a, false, nx, hp⟩ := by
  have hl : low K f ro nx = nx := by unfold low; rw [if_pos hp0]
  rw [R_eq]
  unfold vlc Fin core
  rw [if_neg (by rw [hv]; decide)]
  dsimp only
  rw [if_pos hp0, hl, h]
  simp [ha]
theorem K_ext {f : FuncId} {args : List AVal} {ro nx : Nat} {hp : Heap} {r : Res} (h1 : pureExt 87 nameExt f args ro nx hp = none) (h2 : pureExt 52 nameExt f args ro nx hp = none) (h3 : pureExt 37 repeatExt f args ro nx hp = none) (h4 : moreExt f args ro nx hp = some r) : K.ext f args ro nx hp = some r := by
  show orExt (pureExt 87 nameExt) (orExt (pureExt 52 nameExt) (orExt (pureExt 37 repeatExt) moreExt)) f args ro nx hp = _
  simp only [orExt, h1, h2, h3, h4]
def leB (a b : ByteArray) : Bool := Op.bytesLess a.toList b.toList || a.toList == b.toList
theorem exF_zero {x : Ex} {d : Int} (h : exF x d = 0) : exOwn x d = 0 ∧ exsF x.args (d + 1) = 0 := by
  rw [exF_eq] at h
  split at h
  · exact ⟨by assumption, h⟩
  · contradiction
theorem exsF_mem {l : List Ex} {d : Int} (h : exsF l d = 0) : ∀ x ∈ l, exF x d = 0 := by
  induction l with
  | nil => intro x hx; cases hx
  | cons y r ih =>
    rw [exsF] at h
    split at h
    · rename_i h0
      intro x hx
      cases hx with
      | head => exact h0
      | tail _ hx => exact ih h x hx
    · contradiction
theorem own_zero {x : Ex} {d : Int} (h : exOwn x d = 0) : d ≤ 20 ∧ 1 ≤ x.op ∧ x.op ≤ 9 ∧ (x.args.length : Int) = arityF x.op ∧ (x.op = 1 ∨ x.n = 0) ∧ 0 ≤ x.n ∧ x.n ≤ 999 ∧ (x.op ≠ 2 ∨ nameB x.name = true) ∧ (x.op = 2 ∨ x.name.toList = []) := by
  unfold exOwn at h
  have ha : ¬ arityF x.op < 0 → 1 ≤ x.op ∧ x.op ≤ 9 := by
    unfold arityF
    intro h1
    split at h1
    · omega
    · omega
  grind (splits := 30)
theorem leB_lt {a b : ByteArray} (h : leB a b = false) : b.toList < a.toList := by
  unfold leB at h
  rw [bytesLess_eq] at h
  simp only [Bool.or_eq_false_iff, decide_eq_false_iff_not, beq_eq_false_iff_ne] at h
  rcases List.le_iff_lt_or_eq.1 (List.not_lt.1 h.1) with h1 | h1
  · exact h1
  · exact absurd h1.symm h.2
def orF : List Int → Int
  | [] => 0
  | x :: r => if x ≠ 0 then x else orF r
def LoopO (f : Int) (r : Option (AExit × St)) : Prop := ∃ s, r = some (if f = 0 then .exit 0 else .ret, s) ∧ s.tm.length = 18 ∧ (f ≠ 0 → getC s.tm 2 = (.int .i64 f, false)) ∧ getC s.tm 3 = (.int .i64 0, false)
theorem or_loop (l : List Int) (hl : l.length < 1000) : ∀ (n k : Nat) (tm : List Cell) (nx : Nat) (hp : Heap), n + k = l.length → tm.length = 18 → getC tm 6 = (.lst (ints' l), false) → getC tm 7 = (.int .i64 l.length, false) → getC tm 8 = (.int .i64 k, false) → getC tm 3 = (.int .i64 0, false) →
    LoopO (orF (l.drop k)) (X K ⟨0, []⟩ (.loop (LB Tryz.prog 14 [] 0)) ⟨tm, nx, hp⟩) := by
  have e := LB_open (P := Tryz.prog) [] 0 Tryz.func14 rfl rfl (by kernel_rfl)
  simp only [slim, slimO, annO, List.map, List.zip, List.zipWith, List.lookup, holed, loopsOf, List.nil_append, List.cons_append, List.getD_cons_zero, List.getD_cons_succ, Nat.reduceBEq] at e
  intro n
  induction n with
  | zero =>
    intro k tm nx hp hk ht h6 h7 h8 h3
    rw [List.drop_eq_nil_of_le (by omega), Y_loop_eq _ _ e]
    clear e
    have hkl : ¬ (k : Int) < l.length := by omega
    generalize hb : X K _ _ _ = r
    simp [ht, h7, h8, hkl] at hb
    subst hb
    exact ⟨_, rfl, by simp [ht], fun h => absurd rfl h, by simp [h3]⟩
  | succ n ihn =>
    intro k tm nx hp hk ht h6 h7 h8 h3
    have hx := List.getElem?_eq_getElem (l := l) (i := k) (by omega)
    rw [List.drop_eq_getElem_cons (by omega), Y_loop_eq _ _ e]
    clear e
    have hxe : (ints' l)[k]? = some (.int .i64 l[k]) := by simp [ints', hx]
    generalize l[k] = x at hx hxe
    have hkl : (k : Int) < l.length := by omega
    have hw2 : IntKind.i64.wrap ((k : Int) + 1) = (k : Int) + 1 := wrap_small (by omega) (by omega)
    generalize hb : X K _ _ _ = r
    by_cases h0 : x = 0
    · simp [ht, h3, h6, h7, h8, hkl, hxe, hw2, h0] at hb
      subst hb
      rw [XK_normal, orF, if_neg (by simp [h0])]
      exact ihn (k + 1) _ _ _ (by omega) (by simp [ht]) (by simp [h6]) (by simp [h7]) (by simp [ht]) (by simp [h3])
    · simp [ht, h3, h6, h7, h8, hkl, hxe, hw2, h0] at hb
      subst hb
      rw [XK_ret, orF, if_pos h0]
      exact ⟨_, by rw [if_neg h0], by simp [ht], fun _ => by simp [ht], by simp [h3]⟩
@[simp] theorem or_R (l : List Int) (hl : l.length < 1000) (ro nx : Nat) (hp : Heap) : R K 14 [.lst (ints' l)] ro nx hp = some ⟨.int .i64 (orF l), false, nx, hp⟩ := by
  have hil : (ints' l).length = l.length := by simp [ints']
  have hid : idsLts 0 (ints' l) = true := by
    induction l with
    | nil => simp [ints']
    | cons x r ih => rw [show ints' (x :: r) = .int .i64 x :: ints' r from rfl, idsLts_cons, ih (by simp at hl; omega) (by simp [ints'])]; simp
  rw [R_val' K ro 14 _ nx hp [] Tryz.func14 rfl Tryz.ntmps14 Tryz.results14 (mu := []) rfl (by kernel_rfl) rfl rfl rfl]; simp only [slim, slimO, annO, List.map, List.zip, List.zipWith, List.lookup, holed, Nat.reduceBEq]
  simp [List.replicate, hil, hid]
  generalize hb : X K _ (.loop _) _ = r
  have hk : LoopO (orF l) r := by
    rw [← hb]
    exact or_loop l hl l.length 0 _ _ _ (by omega) (by simp) (by simp) (by simp) (by simp) (by simp)
  obtain ⟨⟨tm', nx', hp'⟩, rfl, h1, h2, h3⟩ := hk
  simp only at h1 h2 h3
  clear hb
  by_cases h0 : orF l = 0
  · simp [h0, h1, h3]
  · simp [h0, h1, h2 h0]
theorem lift_any {x : Option Res} {v : AVal} {o : Bool} (h : lift 0 [] x = some ⟨v, o, 0, []⟩) (nx : Nat) (hp : Heap) : lift nx hp x = some ⟨v, o, nx, hp⟩ := by
  cases x with
  | none => cases h
  | some r =>
    simp only [lift, Option.some.injEq] at h ⊢
    injection h with h1 h2 h3 h4
    subst h1 h2
    rfl
theorem val_any {f : FuncId} {args : List AVal} (hv : K.vl f = true) (hi : idsLts 0 args = true) {v : AVal} {o : Bool} (h : R K f args 0 0 [] = some ⟨v, o, 0, []⟩) (ro nx : Nat) (hp : Heap) : R K f args ro nx hp = some ⟨v, o, nx, hp⟩ := by
  rw [R_eq] at h ⊢
  unfold vlc at h ⊢
  rw [if_pos hv, if_pos hi] at h ⊢
  exact lift_any h nx hp
theorem valued0 : arun K 100 22 [] 0 0 [] = some ⟨.bool true, false, 0, []⟩ := by kernel_rfl
theorem valued_R (ro nx : Nat) (hp : Heap) : R K 22 [] ro nx hp = some ⟨.bool true, false, nx, hp⟩ :=
  val_any rfl (by simp) (R_iff.2 ⟨100, valued0⟩) ro nx hp
end Go.Proofs.YtkpfkadjmijmlaaGreatDoor.M
/- A loop by its invariant. -/
namespace Go.Proofs.YtkpfkadjmijmlaaGreatDoor.M
/-- A loop of n rounds at most: what holds at its head, what it comes to. -/
theorem rounds {K : Cfg} {ro : Md} {L b : Code} (e : L = b) (n : Nat) (I : Nat → List Cell → Nat → Heap → Prop) (Post : Option (AExit × St) → Prop)
    (done : ∀ tm nx hp r, I n tm nx hp → X K ro b ⟨tm, nx, hp⟩ = r → ∃ x s, r = some (x, s) ∧ x ≠ .normal ∧ Post r)
    (step : ∀ k tm nx hp r, k < n → I k tm nx hp → X K ro b ⟨tm, nx, hp⟩ = r → (∃ tm' nx' hp', r = some (.normal, ⟨tm', nx', hp'⟩) ∧ I (k + 1) tm' nx' hp') ∨ ∃ x s, r = some (x, s) ∧ x ≠ .normal ∧ Post r) :
    ∀ k tm nx hp, k ≤ n → I k tm nx hp → Post (X K ro (.loop L) ⟨tm, nx, hp⟩) := by
  have key : ∀ m k tm nx hp, k + m = n → I k tm nx hp → Post (X K ro (.loop L) ⟨tm, nx, hp⟩) := by
    intro m
    induction m with
    | zero =>
      intro k tm nx hp hk hI
      obtain rfl : k = n := by omega
      rw [Y_loop_eq _ _ e]
      obtain ⟨x, s, h1, h2, h3⟩ := done _ _ _ _ hI rfl
      rw [h1] at h3 ⊢
      cases x with
      | normal => exact absurd rfl h2
      | ret => rw [XK_ret]; exact h3
      | exit j => rw [XK_exit]; exact h3
    | succ m ih =>
      intro k tm nx hp hk hI
      rw [Y_loop_eq _ _ e]
      rcases step k _ _ _ _ (by omega) hI rfl with ⟨tm', nx', hp', h1, h2⟩ | ⟨x, s, h1, h2, h3⟩
      · rw [h1, XK_normal]; exact ih (k + 1) _ _ _ (by omega) h2
      · rw [h1] at h3 ⊢
        cases x with
        | normal => exact absurd rfl h2
        | ret => rw [XK_ret]; exact h3
        | exit j => rw [XK_exit]; exact h3
  exact fun k tm nx hp hk hI => key (n - k) k tm nx hp (by omega) hI
end Go.Proofs.YtkpfkadjmijmlaaGreatDoor.M
