/- Texts of this claim, joined: Heaps of records that stand in trees: what is made of them when they are frozen. -/
import Derived.Test.YtleimfinniclgaaGreatDoorProg
import Derived.KernelRfl
import Derived.Test.YtleimfinniclgaaGreatDoorJ1
import Derived.Test.YtleimfinniclgaaGreatDoorJ3
/- What simp does with the machine's code. -/
namespace Go.Proofs.YtleimfinniclgaaGreatDoor.M
set_option linter.unusedVariables false

def getC (tm : List Cell) (i : Nat) : Cell := (tm[i]?).getD (.bad, false)
@[simp] theorem getC_cons (c : Cell) (r : List Cell) (i : Nat) : getC (c :: r) i = ((c :: r)[i]?).getD (.bad, false) := rfl
@[simp] theorem getC_set (tm : List Cell) (i : Nat) (c : Cell) (j : Nat) : getC (tm.set i c) j = if i = j then (if i < tm.length then c else getC tm j) else getC tm j := by
  unfold getC
  rw [List.getElem?_set]
  by_cases h : i = j
  · subst h
    by_cases hl : i < tm.length
    · simp [hl]
    · simp [hl]
  · simp [h]
@[simp] theorem getC_unflag (tm : List Cell) (t j : Nat) : getC (unflag tm t) j = if t = j then ((getC tm j).1, false) else getC tm j := by
  unfold unflag
  by_cases h : t < tm.length
  · rw [List.getElem?_eq_getElem h]
    simp only [getC_set, h, if_true]
    by_cases e : t = j
    · subst e
      simp only [if_true]
      unfold getC
      rw [List.getElem?_eq_getElem h]; rfl
    · simp only [if_neg e]
  · rw [List.getElem?_eq_none (by omega)]
    by_cases e : t = j
    · subst e
      simp only [if_true]
      unfold getC
      rw [List.getElem?_eq_none (by omega)]; rfl
    · simp only [if_neg e]
@[simp] theorem unflag_len (tm : List Cell) (t : Nat) : (unflag tm t).length = tm.length := by
  unfold unflag
  split <;> simp
theorem getC_some {tm : List Cell} {i : Nat} (h : i < tm.length) : tm[i]? = some (getC tm i) := by
  unfold getC
  rw [List.getElem?_eq_getElem h]; rfl
section
variable (K : Cfg) (ro : Md) (ops : Array Oper) (d : Option Tmp) (g : Option (Nat × Bool))
@[simp] theorem O_dst (op : Op) : (O d op g).dst = d := rfl
@[simp] theorem O_op (op : Op) : (O d op g).op = op := rfl
@[simp] theorem O_guard (op : Op) : (O d op g).guard = g := rfl
/-- What an operation gives is laid into its slot. -/
def W (d : Option Tmp) (tm : List Cell) : Option Out → Option St
  | some q => some (q.put d tm)
  | none => none
@[simp] theorem W_some (d : Tmp) (tm : List Cell) (v : AVal) (own : Bool) (nx : Nat) (hp : Heap) : W (some d) tm (some ⟨v, own, none, nx, hp⟩) = some ⟨tm.set d (v, own), nx, hp⟩ := rfl
@[simp] theorem W_clr (d t : Tmp) (tm : List Cell) (v : AVal) (own : Bool) (nx : Nat) (hp : Heap) : W (some d) tm (some ⟨v, own, some t, nx, hp⟩) = some ⟨(unflag tm t).set d (v, own), nx, hp⟩ := rfl
@[simp] theorem W_no (tm : List Cell) (v : AVal) (own : Bool) (nx : Nat) (hp : Heap) : W none tm (some ⟨v, own, none, nx, hp⟩) = some ⟨tm, nx, hp⟩ := rfl
@[simp] theorem W_noclr (t : Tmp) (tm : List Cell) (v : AVal) (own : Bool) (nx : Nat) (hp : Heap) : W none tm (some ⟨v, own, some t, nx, hp⟩) = some ⟨unflag tm t, nx, hp⟩ := rfl
@[simp] theorem W_bad (tm : List Cell) : W d tm none = none := rfl
/-- A value, if there is one. -/
def V (nx : Nat) (hp : Heap) : Option AVal → Option Out
  | some v => some ⟨v, false, none, nx, hp⟩
  | none => none
@[simp] theorem V_some (nx : Nat) (hp : Heap) (v : AVal) : V nx hp (some v) = some ⟨v, false, none, nx, hp⟩ := rfl
@[simp] theorem V_none (nx : Nat) (hp : Heap) : V nx hp none = none := rfl
theorem V_map (nx : Nat) (hp : Heap) (x : Option AVal) : x.map (Out.val nx hp) = V nx hp x := by cases x <;> rfl
theorem astep_O (op : Op) (s : St) : astep K.P (R K) ops ro (O d op none) s = W d s.tm (aeff K.P (R K) ops ro (O d op none) (ev s.tm) s.nx s.hp) := by
  unfold astep awanted
  rw [show (O d op none).guard = none from rfl]
  simp only
  cases aeff K.P (R K) ops ro (O d op none) (ev s.tm) s.nx s.hp <;> rfl
@[simp] theorem gate_bool (b f w : Bool) : gate (some (.bool b, f)) w = some (b == w) := rfl
@[simp] theorem gate_tup (vs : List AVal) (f w : Bool) : gate (some (.tup vs, f)) w = some false := rfl
theorem gate_getC (tm : List Cell) (t : Nat) (w : Bool) : gate tm[t]? w = gate (some (getC tm t)) w := by
  unfold getC
  cases tm[t]? <;> rfl
def gate2 (o : Option Oper) (tm : List Cell) (w : Bool) : Option Bool := match o.bind (·.dst) with
  | some t => gate tm[t]? w
  | none => some false
@[simp] theorem gate2_some (t : Tmp) (op' : Op) (g' : Option (Nat × Bool)) (tm : List Cell) (w : Bool) : gate2 (some (O (some t) op' g')) tm w = gate (some (getC tm t)) w := gate_getC tm t w
def Gt (a b : Option St) : Option Bool → Option St
  | some q => if q then a else b
  | none => none
@[simp] theorem Gt_some (a b : Option St) (q : Bool) : Gt a b (some q) = if q then a else b := rfl
theorem astep_G (op : Op) (j : Nat) (w : Bool) (s : St) : astep K.P (R K) ops ro (O d op (some (j, w))) s = Gt (W d s.tm (aeff K.P (R K) ops ro (O d op none) (ev s.tm) s.nx s.hp)) (W d s.tm (some ⟨.tup [], false, none, s.nx, s.hp⟩)) (gate2 ops[j]? s.tm w) := by
  have : awanted ops s.tm (O d op (some (j, w))) = gate2 ops[j]? s.tm w := rfl
  unfold astep
  rw [this]
  have e : aeff K.P (R K) ops ro (O d op (some (j, w))) (ev s.tm) s.nx s.hp = aeff K.P (R K) ops ro (O d op none) (ev s.tm) s.nx s.hp := by cases op <;> rfl
  rw [e]
  cases gate2 ops[j]? s.tm w with
  | none => rfl
  | some q =>
    cases q with
    | false => rfl
    | true => simp only [Gt_some, if_true]; cases aeff K.P (R K) ops ro (O d op none) (ev s.tm) s.nx s.hp <;> rfl
@[simp] theorem OS_free (op : Op) (r : List Oper) (tm : List Cell) (nx : Nat) (hp : Heap) : OS K ops ro (O d op none :: r) (some ⟨tm, nx, hp⟩) = OS K ops ro r (W d tm (aeff K.P (R K) ops ro (O d op none) (ev tm) nx hp)) := by rw [OS_cons, astep_O]
@[simp] theorem OS_guard (op : Op) (j : Nat) (w : Bool) (r : List Oper) (tm : List Cell) (nx : Nat) (hp : Heap) :
    OS K ops ro (O d op (some (j, w)) :: r) (some ⟨tm, nx, hp⟩) = OS K ops ro r (Gt (W d tm (aeff K.P (R K) ops ro (O d op none) (ev tm) nx hp)) (W d tm (some ⟨.tup [], false, none, nx, hp⟩)) (gate2 ops[j]? tm w)) := by
  rw [OS_cons, astep_G K ro ops d op j w]
end
attribute [simp] OS_nil OS_none Y_seq Y_region Y_dregion Y_block X_skip X_exit X_ret XK_normal XK_ret XK_exit XK_none XN_some XN_none XBk_normal XBk_ret XBk_exit XR_normal XR_ret
section
variable (P : Program) (call : CallF) (ops : Array Oper) (ro : Md) (d : Option Tmp) (ρ : Rho) (nx : Nat) (hp : Heap)
@[simp] theorem amove_f (take : Bool) (t : Tmp) (v : AVal) : amove take (.tmp t) (v, false) nx hp = some ⟨v, false, none, nx, hp⟩ := rfl
@[simp] theorem amove_t (take : Bool) (t : Tmp) (v : AVal) : amove take (.tmp t) (v, true) nx hp = if take then some ⟨v, true, some t, nx, hp⟩ else some ⟨v, false, none, nx, hp⟩ := rfl
@[simp] theorem amove_c (take : Bool) (u : Value) (v : AVal) (b : Bool) : amove take (.const u) (v, b) nx hp = some ⟨v, b, none, nx, hp⟩ := rfl
@[simp] theorem amove_fn (take : Bool) (f : FuncId) (v : AVal) (b : Bool) : amove take (.func f) (v, b) nx hp = some ⟨v, false, none, nx, hp⟩ := rfl
@[simp] theorem D_move (x : Operand) : aeff P call ops ro (O d (.move x) none) ρ nx hp = amove (feeds ops d) x (ρ x) nx hp := rfl
@[simp] theorem D_assign (t : Tmp) : aeff P call ops ro (O d (.assign (.tmp t)) none) ρ nx hp = amove (makes ops t) (.tmp t) (ρ (.tmp t)) nx hp := rfl
@[simp] theorem D_assignC (v : Value) : aeff P call ops ro (O d (.assign (.const v)) none) ρ nx hp = amove false (.const v) (ρ (.const v)) nx hp := rfl
@[simp] theorem D_assignF (f : FuncId) : aeff P call ops ro (O d (.assign (.func f)) none) ρ nx hp = amove false (.func f) (ρ (.func f)) nx hp := rfl
def Pk (a b : AVal) (nx : Nat) (hp : Heap) : AVal → Option Out
  | .bool q => some ⟨if q then a else b, false, none, nx, hp⟩
  | _ => none
@[simp] theorem Pk_bool (a b : AVal) (q : Bool) : Pk a b nx hp (.bool q) = some ⟨if q then a else b, false, none, nx, hp⟩ := rfl
@[simp] theorem D_pick (c a b : Operand) : aeff P call ops ro (O d (.pick c a b) none) ρ nx hp = Pk (ρ a).1 (ρ b).1 nx hp (ρ c).1 := by
  show aeff0 P ops ro (O d (.pick c a b) none) ρ nx hp = _
  unfold aeff0
  simp only [O]
  cases (ρ c).1 <;> rfl
/-- A variable's first cells. -/
def zcells (P : Program) (t : TypeId) : Option (List Cell) := match (P.info? t).bind (·.zero) with
  | some z => if (z.cells.toList.map ofCell).all AVal.one then some (z.cells.toList.map fun c => (ofCell c, isNil c)) else none
  | none => none
def Al (nx : Nat) (hp : Heap) : Option (List Cell) → Option Out
  | some cs => some ⟨.ptr nx 0, false, none, nx + 1, (nx, .cells cs) :: hp⟩
  | none => none
@[simp] theorem Al_some (cs : List Cell) : Al nx hp (some cs) = some ⟨.ptr nx 0, false, none, nx + 1, (nx, .cells cs) :: hp⟩ := rfl
@[simp] theorem D_alloc (t : TypeId) : aeff P call ops ro (O d (.alloc t) none) ρ nx hp = Al nx hp (zcells P t) := by
  show aeff0 P ops ro (O d (.alloc t) none) ρ nx hp = _
  unfold aeff0 zcells
  simp only [O]
  cases (P.info? t).bind (·.zero) with
  | none => rfl
  | some z => simp only; split <;> rfl
@[simp] theorem D_box (t : TypeId) (x : Operand) : aeff P call ops ro (O d (.box t x) none) ρ nx hp = if (ρ x).1.flat.all AVal.one then some ⟨.ptr nx 0, false, none, nx + 1, (nx, .cells ((ρ x).1.flat.map fun v => (v, false))) :: hp⟩ else none := rfl
@[simp] theorem D_build (t : TypeId) (ps : Array (Nat × Operand)) : aeff P call ops ro (O d (.build t ps) none) ρ nx hp = V nx hp (abuild P (stored ops d) t (ps.toList.map fun p => (p.1, (ρ p.2).1))) := by rw [← V_map]; rfl
@[simp] theorem D_load (t : TypeId) (a : Operand) : aeff P call ops ro (O d (.load t a) none) ρ nx hp = aload P ops ro d t (ρ a).1 nx hp := rfl
@[simp] theorem D_store (t : TypeId) (a x : Operand) : aeff P call ops ro (O d (.store t a x) none) ρ nx hp = astore P ops ro t (ρ a).1 x (ρ x) nx hp := rfl
@[simp] theorem D_binOp (op : BinOp) (t u : TypeId) (x y : Operand) : aeff P call ops ro (O d (.binOp op t x y u) none) ρ nx hp = V nx hp (abinT P t op (ρ x).1 (ρ y).1) := by rw [← V_map]; rfl
@[simp] theorem abinT_int (t : TypeId) (op : BinOp) (k k' : IntKind) (a b : Int) : abinT P t op (.int k a) (.int k' b) = abin op (.int k a) (.int k' b) := rfl
@[simp] theorem abinT_str (t : TypeId) (op : BinOp) (a b : ByteArray) : abinT P t op (.str a) (.str b) = abin op (.str a) (.str b) := rfl
@[simp] theorem abinT_beq (t : TypeId) (a b : Bool) (h : P.underlying t = some .bool) : abinT P t .eql (.bool a) (.bool b) = some (.bool (a == b)) := by simp [abinT, aeq, aeq1, h]
@[simp] theorem abinT_bne (t : TypeId) (a b : Bool) (h : P.underlying t = some .bool) : abinT P t .neq (.bool a) (.bool b) = some (.bool !(a == b)) := by simp [abinT, aeq, aeq1, h]
@[simp] theorem abinT_aeq (t : TypeId) (xs ys : List AVal) : abinT P t .eql (.agg xs) (.agg ys) = (aeq P t (.agg xs) (.agg ys)).map .bool := rfl
@[simp] theorem abinT_ane (t : TypeId) (xs ys : List AVal) : abinT P t .neq (.agg xs) (.agg ys) = (aeq P t (.agg xs) (.agg ys)).map fun b => .bool !b := rfl
@[simp] theorem D_unOp (op : UnOp) (t : TypeId) (x : Operand) : aeff P call ops ro (O d (.unOp op t x) none) ρ nx hp = V nx hp (aun op (ρ x).1) := by rw [← V_map]; rfl
@[simp] theorem D_makeFunc (f : FuncId) (a b : Array Operand) : aeff P call ops ro (O d (.makeFunc (.func f) a b) none) ρ nx hp = some ⟨.clo f (a.toList.map fun x => (ρ x).1) (b.toList.map fun x => (ρ x).1), false, none, nx, hp⟩ := rfl
@[simp] theorem D_slice (t : TypeId) (x : Operand) (lo hi mx : Option Operand) : aeff P call ops ro (O d (.slice t x lo hi mx) none) ρ nx hp = V nx hp (aslice P t (ρ x).1 (lo.map fun x => (ρ x).1) (hi.map fun x => (ρ x).1) (mx.map fun x => (ρ x).1)) := by rw [← V_map]; rfl
@[simp] theorem D_fieldAddr (t : TypeId) (x : Operand) (f : Nat) : aeff P call ops ro (O d (.fieldAddr t x f) none) ρ nx hp = V nx hp (afield P t (ρ x).1 f) := by rw [← V_map]; rfl
@[simp] theorem D_field (t : TypeId) (x : Operand) (f : Nat) : aeff P call ops ro (O d (.field t x f) none) ρ nx hp = V nx hp (afieldv P t (ρ x).1 f) := by rw [← V_map]; rfl
@[simp] theorem D_indexAddr (t : TypeId) (x i : Operand) : aeff P call ops ro (O d (.indexAddr t x i) none) ρ nx hp = V nx hp (aindexa P t (ρ x).1 (ρ i).1) := by rw [← V_map]; rfl
@[simp] theorem D_index (t : TypeId) (x i : Operand) : aeff P call ops ro (O d (.index t x i) none) ρ nx hp = V nx hp (aindex P t (ρ x).1 (ρ i).1) := by rw [← V_map]; rfl
def Xt (i : Nat) (nx : Nat) (hp : Heap) : AVal → Option Out
  | .tup vs => V nx hp vs[i]?
  | _ => none
@[simp] theorem Xt_tup (i : Nat) (vs : List AVal) : Xt i nx hp (.tup vs) = V nx hp vs[i]? := rfl
def Mm (nx : Nat) (hp : Heap) : Option TypeDesc → Option Out
  | some (.map _ _) => some ⟨.map nx, false, none, nx + 1, (nx, .map []) :: hp⟩
  | _ => none
@[simp] theorem Mm_map (k e : TypeId) : Mm nx hp (some (.map k e)) = some ⟨.map nx, false, none, nx + 1, (nx, .map []) :: hp⟩ := rfl
@[simp] theorem D_makeMap (t : TypeId) : aeff P call ops ro (O d (.makeMap t none) none) ρ nx hp = Mm nx hp (P.underlying t) := by
  show aeff0 P ops ro (O d (.makeMap t none) none) ρ nx hp = _
  unfold aeff0
  simp only [O]
  cases P.underlying t with
  | none => rfl
  | some u => cases u <;> rfl
def Ms (nx : Nat) : Option Heap → Option Out
  | some h => some ⟨.tup [], false, none, nx, h⟩
  | none => none
@[simp] theorem Ms_some (h : Heap) : Ms nx (some h) = some ⟨.tup [], false, none, nx, h⟩ := rfl
@[simp] theorem D_lookup (t : TypeId) (m k : Operand) (ok : Bool) : aeff P call ops ro (O d (.lookup t m k ok) none) ρ nx hp = V nx hp (alookup P t (ρ m).1 (ρ k).1 ok hp) := by rw [← V_map]; rfl
@[simp] theorem D_mapUpdate (t : TypeId) (m k v : Operand) : aeff P call ops ro (O d (.mapUpdate t m k v) none) ρ nx hp = Ms nx (amapset P ro.lo t (ρ m).1 (ρ k).1 (ρ v).1 hp) := by
  show Option.map _ (amapset P ro.lo t (ρ m).1 (ρ k).1 (ρ v).1 hp) = _
  cases amapset P ro.lo t (ρ m).1 (ρ k).1 (ρ v).1 hp <;> rfl
@[simp] theorem D_insert (t : TypeId) (m k v : Operand) : aeff P call ops ro (O d (.insert t m k v) none) ρ nx hp = Ms nx (amapset P ro.lo t (ρ m).1 (ρ k).1 (ρ v).1 hp) := by
  show Option.map _ (amapset P ro.lo t (ρ m).1 (ρ k).1 (ρ v).1 hp) = _
  cases amapset P ro.lo t (ρ m).1 (ρ k).1 (ρ v).1 hp <;> rfl
@[simp] theorem D_extract (x : Operand) (i : Nat) : aeff P call ops ro (O d (.extract x i) none) ρ nx hp = Xt i nx hp (ρ x).1 := by
  show aeff0 P ops ro (O d (.extract x i) none) ρ nx hp = _
  unfold aeff0
  simp only [O]
  cases (ρ x).1 <;> first | rfl | exact V_map nx hp _
def Nc (nx : Nat) (hp : Heap) : AVal → Option Out
  | .ptr i k => some ⟨.ptr i k, false, none, nx, hp⟩
  | .pel e k => some ⟨.pel e k, false, none, nx, hp⟩
  | .clo f a b => some ⟨.clo f a b, false, none, nx, hp⟩
  | _ => none
@[simp] theorem Nc_ptr (i k : Nat) : Nc nx hp (.ptr i k) = some ⟨.ptr i k, false, none, nx, hp⟩ := rfl
@[simp] theorem Nc_pel (e : AVal) (k : Nat) : Nc nx hp (.pel e k) = some ⟨.pel e k, false, none, nx, hp⟩ := rfl
@[simp] theorem Nc_clo (f : FuncId) (a b : List AVal) : Nc nx hp (.clo f a b) = some ⟨.clo f a b, false, none, nx, hp⟩ := rfl
@[simp] theorem D_nilCheck (x : Operand) : aeff P call ops ro (O d (.nilCheck x) none) ρ nx hp = Nc nx hp (ρ x).1 := by
  show aeff0 P ops ro (O d (.nilCheck x) none) ρ nx hp = _
  unfold aeff0
  simp only [O]
  cases (ρ x).1 <;> rfl
/-- A call's answer. -/
def Cr : Option Res → Option Out
  | some r => some ⟨r.v, r.own, none, r.nx, r.hp⟩
  | none => none
@[simp] theorem Cr_some (v : AVal) (own : Bool) : Cr (some ⟨v, own, nx, hp⟩) = some ⟨v, own, none, nx, hp⟩ := rfl
def Cl (call : CallF) (args : List AVal) (lo nx : Nat) (hp : Heap) : AVal → Option Out
  | .clo g fs cs => Cr (call g (fs ++ args ++ cs) lo nx hp)
  | _ => none
@[simp] theorem Cl_clo (args : List AVal) (g : FuncId) (fs cs : List AVal) (lo : Nat) : Cl call args lo nx hp (.clo g fs cs) = Cr (call g (fs ++ args ++ cs) lo nx hp) := rfl
@[simp] theorem D_call (f : Operand) (args : Array Operand) (ts : Array TypeId) : aeff P call ops ro (O d (.call { callee := .value f, args := args, argTypes := ts }) none) ρ nx hp = Cl call (args.toList.map fun x => (ρ x).1) ro.lo nx hp (ρ f).1 := by
  show acall P call ro { callee := .value f, args := args, argTypes := ts } ρ nx hp = _
  unfold acall
  simp only
  cases (ρ f).1 <;> rfl
@[simp] theorem D_len (x : Operand) (t : TypeId) : aeff P call ops ro (O d (.call { callee := .builtin .len, args := #[x], argTypes := #[t] }) none) ρ nx hp = V nx hp (alen P t (ρ x).1) := by rw [← V_map]; rfl
@[simp] theorem D_min (x y : Operand) (ts : Array TypeId) : aeff P call ops ro (O d (.call { callee := .builtin .min, args := #[x, y], argTypes := ts }) none) ρ nx hp = V nx hp (amin (ρ x).1 (ρ y).1) := by
  rw [← V_map]
  show (List.foldlM (fun a y => amin a (ρ y).1) (ρ x).1 [y]).map _ = _
  simp [List.foldlM]
@[simp] theorem D_max (x y : Operand) (ts : Array TypeId) : aeff P call ops ro (O d (.call { callee := .builtin .max, args := #[x, y], argTypes := ts }) none) ρ nx hp = V nx hp (amax (ρ x).1 (ρ y).1) := by
  rw [← V_map]
  show (List.foldlM (fun a y => amax a (ρ y).1) (ρ x).1 [y]).map _ = _
  simp [List.foldlM]
def Ap (P : Program) (t : TypeId) (t2 : TypeId) (y : AVal) (clr : Option Tmp) (nx : Nat) (hp : Heap) : Cell → Option Out
  | (.lst xs, true) => aappendO P [t, t2] xs y clr nx hp
  | _ => none
@[simp] theorem Ap_lst (t t2 : TypeId) (y : AVal) (clr : Option Tmp) (xs : List AVal) : Ap P t t2 y clr nx hp (.lst xs, true) = aappendO P [t, t2] xs y clr nx hp := rfl
def ApC (P : Program) (t : TypeId) (t2 : TypeId) (y : AVal) (nx : Nat) (hp : Heap) : Cell → Option Out
  | (.lst [], true) => aappendO P [t, t2] [] y none nx hp
  | _ => none
@[simp] theorem ApC_nil (t t2 : TypeId) (y : AVal) : ApC P t t2 y nx hp (.lst [], true) = aappendO P [t, t2] [] y none nx hp := rfl
@[simp] theorem D_append (u : Tmp) (y : Operand) (t t2 : TypeId) : aeff P call ops ro (O d (.call { callee := .builtin .append, args := #[.tmp u, y], argTypes := #[t, t2] }) none) ρ nx hp = if ro.mu.contains t then aappendM P ro.lo [t, t2] (.tmp u) (ρ (.tmp u)) (ρ y).1 nx hp else Ap P t t2 (ρ y).1 (some u) nx hp (ρ (.tmp u)) := by
  show abuiltin P ro .append #[t, t2] #[.tmp u, y] ρ nx hp = _
  unfold abuiltin
  simp only
  by_cases hm : ro.mu.contains t = true
  · rw [if_pos (show appendsAt ro.mu #[t, t2].toList = true from hm), if_pos hm]
  · rw [if_neg (show ¬ appendsAt ro.mu #[t, t2].toList = true from hm), if_neg hm]
    generalize ρ (.tmp u) = c
    obtain ⟨v, f⟩ := c
    cases v <;> cases f <;> rfl
@[simp] theorem D_appendC (u : Value) (y : Operand) (t t2 : TypeId) : aeff P call ops ro (O d (.call { callee := .builtin .append, args := #[.const u, y], argTypes := #[t, t2] }) none) ρ nx hp = if ro.mu.contains t then aappendM P ro.lo [t, t2] (.const u) (ρ (.const u)) (ρ y).1 nx hp else ApC P t t2 (ρ y).1 nx hp (ρ (.const u)) := by
  show abuiltin P ro .append #[t, t2] #[.const u, y] ρ nx hp = _
  unfold abuiltin
  simp only
  by_cases hm : ro.mu.contains t = true
  · rw [if_pos (show appendsAt ro.mu #[t, t2].toList = true from hm), if_pos hm]
  · rw [if_neg (show ¬ appendsAt ro.mu #[t, t2].toList = true from hm), if_neg hm]
    generalize ρ (.const u) = c
    obtain ⟨v, f⟩ := c
    cases v <;> cases f <;> first | rfl | (rename_i xs; cases xs <;> rfl)
@[simp] theorem seqParts_nil (i : Nat) : seqParts [] i = true := by have h : True := trivial; simp only [seqParts]
@[simp] theorem seqParts_cons (k i : Nat) (v : AVal) (r : List (Nat × AVal)) : seqParts ((k, v) :: r) i = (k == i && seqParts r (i + 1)) := by have h : True := trivial; simp only [seqParts]
def Bs (P : Program) (mu : List TypeId) (t : TypeId) (len : Nat) (xs : List (Nat × AVal)) (nx : Nat) (hp : Heap) : Option TypeDesc → Option Out
  | some (.slice e) =>
      if seqParts xs 0 ∧ xs.length = len ∧ len * sizeT P e ≤ 2 ^ 24 ∧ xs.all (fun p => p.2.flat.length == sizeT P e && p.2.flat.all AVal.one) ∧ 0 < sizeT P e ∧ zeroT P e = true then (if mu.contains t then some ⟨.sl nx 0 len (sizeT P e) ((isAggT P e).getD false), false, none, nx + 1, (nx, .cells (unown (flats (xs.map (·.2))))) :: hp⟩ else some ⟨.lst (xs.map (·.2)), true, none, nx, hp⟩) else none
  | _ => none
@[simp] theorem Bs_slice (mu : List TypeId) (t e : TypeId) (len : Nat) (xs : List (Nat × AVal)) : Bs P mu t len xs nx hp (some (.slice e)) =
      if seqParts xs 0 ∧ xs.length = len ∧ len * sizeT P e ≤ 2 ^ 24 ∧ xs.all (fun p => p.2.flat.length == sizeT P e && p.2.flat.all AVal.one) ∧ 0 < sizeT P e ∧ zeroT P e = true then (if mu.contains t then some ⟨.sl nx 0 len (sizeT P e) ((isAggT P e).getD false), false, none, nx + 1, (nx, .cells (unown (flats (xs.map (·.2))))) :: hp⟩ else some ⟨.lst (xs.map (·.2)), true, none, nx, hp⟩) else none := rfl
@[simp] theorem D_buildSlice (t : TypeId) (len : Nat) (ps : Array (Nat × Operand)) : aeff P call ops ro (O d (.buildSlice t len ps) none) ρ nx hp = Bs P ro.mu t len (ps.toList.map fun p => (p.1, (ρ p.2).1)) nx hp (P.underlying t) := by
  show aeff0 P ops ro (O d (.buildSlice t len ps) none) ρ nx hp = _
  unfold aeff0
  simp only [O]
  cases P.underlying t with
  | none => rfl
  | some u => cases u <;> rfl
@[simp] theorem ev_tmp (tm : List Cell) (t : Tmp) : ev tm (.tmp t) = getC tm t := rfl
@[simp] theorem ev_const (tm : List Cell) (v : Value) : ev tm (.const v) = (ofVal v, isNil v) := rfl
@[simp] theorem ev_func (tm : List Cell) (f : FuncId) : ev tm (.func f) = (.clo f [] [], false) := rfl
end
attribute [simp] ofVal ofCell isNil abin aint astr aun evv
@[simp] theorem one_int (k : IntKind) (n : Int) : AVal.one (.int k n) = true := rfl
@[simp] theorem flat_int (k : IntKind) (n : Int) : AVal.flat (.int k n) = [.int k n] := rfl
@[simp] theorem one_bool (b : Bool) : AVal.one (.bool b) = true := rfl
@[simp] theorem flat_bool (b : Bool) : AVal.flat (.bool b) = [.bool b] := rfl
@[simp] theorem one_str (s : ByteArray) : AVal.one (.str s) = true := rfl
@[simp] theorem flat_str (s : ByteArray) : AVal.flat (.str s) = [.str s] := rfl
@[simp] theorem one_agg (cs : List AVal) : AVal.one (.agg cs) = false := rfl
@[simp] theorem flat_agg (cs : List AVal) : AVal.flat (.agg cs) = cs := rfl
@[simp] theorem one_lst (xs : List AVal) : AVal.one (.lst xs) = true := rfl
@[simp] theorem flat_lst (xs : List AVal) : AVal.flat (.lst xs) = [.lst xs] := rfl
@[simp] theorem one_tup (vs : List AVal) : AVal.one (.tup vs) = false := rfl
@[simp] theorem flat_tup (vs : List AVal) : AVal.flat (.tup vs) = [.tup vs] := rfl
@[simp] theorem one_ptr (i o : Nat) : AVal.one (.ptr i o) = true := rfl
@[simp] theorem flat_ptr (i o : Nat) : AVal.flat (.ptr i o) = [.ptr i o] := rfl
@[simp] theorem one_pel (e : AVal) (o : Nat) : AVal.one (.pel e o) = true := rfl
@[simp] theorem flat_pel (e : AVal) (o : Nat) : AVal.flat (.pel e o) = [.pel e o] := rfl
@[simp] theorem one_map (i : Nat) : AVal.one (.map i) = true := rfl
@[simp] theorem flat_map (i : Nat) : AVal.flat (.map i) = [.map i] := rfl
@[simp] theorem one_sl (a b c d : Nat) (g : Bool) : AVal.one (.sl a b c d g) = true := rfl
@[simp] theorem flat_sl (a b c d : Nat) (g : Bool) : AVal.flat (.sl a b c d g) = [.sl a b c d g] := rfl
@[simp] theorem one_clo (f : FuncId) (l m : List AVal) : AVal.one (.clo f l m) = true := rfl
@[simp] theorem flat_clo (f : FuncId) (l m : List AVal) : AVal.flat (.clo f l m) = [.clo f l m] := rfl
@[simp] theorem one_nilp  : AVal.one (.nilp) = true := rfl
@[simp] theorem flat_nilp  : AVal.flat (.nilp) = [.nilp] := rfl
@[simp] theorem one_nilf  : AVal.one (.nilf) = true := rfl
@[simp] theorem flat_nilf  : AVal.flat (.nilf) = [.nilf] := rfl
@[simp] theorem one_nilm  : AVal.one (.nilm) = true := rfl
@[simp] theorem flat_nilm  : AVal.flat (.nilm) = [.nilm] := rfl
@[simp] theorem one_nils  : AVal.one (.nils) = true := rfl
@[simp] theorem flat_nils  : AVal.flat (.nils) = [.nils] := rfl
@[simp] theorem one_bad  : AVal.one (.bad) = false := rfl
@[simp] theorem flat_bad  : AVal.flat (.bad) = [.bad] := rfl
@[simp] theorem X_cond' (K : Cfg) (ro : Md) (c : Operand) (a b : Code) (s : St) : X K ro (.cond c a b) s = (match evv s.tm c with | .bool q => if q then X K ro a s else X K ro b s | _ => none) := X_cond K ro s c a b
def Rc : Option Out → Option Cell
  | some q => some (q.v, q.own)
  | none => none
@[simp] theorem Rc_some (v : AVal) (own : Bool) (clr : Option Tmp) (nx : Nat) (hp : Heap) : Rc (some ⟨v, own, clr, nx, hp⟩) = some (v, own) := rfl
@[simp] theorem Rc_none : Rc none = none := rfl
@[simp] theorem ares_tmp (P : Program) (t : Tmp) (s : St) (h : t < s.tm.length) : ares P s (.tmp t) = some (getC s.tm t) := getC_some h
@[simp] theorem ares_cell (P : Program) (a t : Nat) (s : St) (h : a < s.tm.length) : ares P s (.cell a t) = Rc (aload P #[] ⟨s.nx, []⟩ none t (getC s.tm a).1 s.nx s.hp) := by
  unfold ares
  simp only [getC_some h]
  cases aload P #[] ⟨s.nx, []⟩ none t (getC s.tm a).1 s.nx s.hp <;> rfl
@[simp] theorem aresults_one (P : Program) (r : ResultVar) (s : St) : aresults P [r] s = ares P s r := rfl
@[simp] theorem aresults_zero (P : Program) (s : St) : aresults P [] s = some (.tup [], false) := rfl
def Tp : Option (List AVal) → Option Cell
  | some vs => some (.tup vs, false)
  | none => none
@[simp] theorem Tp_some (vs : List AVal) : Tp (some vs) = some (.tup vs, false) := rfl
@[simp] theorem aresults_more (P : Program) (r r' : ResultVar) (l : List ResultVar) (s : St) : aresults P (r :: r' :: l) s = Tp (areslist P s (r :: r' :: l)) := by
  show (areslist P s (r :: r' :: l)).map _ = _
  cases areslist P s (r :: r' :: l) <;> rfl
def Lc (x : Option Cell) (y : Option (List AVal)) : Option (List AVal) := match x, y with
  | some (v, _), some vs => some (v :: vs)
  | _, _ => none
@[simp] theorem Lc_some (v : AVal) (b : Bool) (vs : List AVal) : Lc (some (v, b)) (some vs) = some (v :: vs) := rfl
@[simp] theorem Lc_getC (c : Cell) (vs : List AVal) : Lc (some c) (some vs) = some (c.1 :: vs) := rfl
@[simp] theorem areslist_nil (P : Program) (s : St) : areslist P s [] = some [] := rfl
@[simp] theorem areslist_cons (P : Program) (s : St) (r : ResultVar) (l : List ResultVar) : areslist P s (r :: l) = Lc (ares P s r) (areslist P s l) := rfl
@[simp] theorem idsLt_int (n : Nat) (k : IntKind) (i : Int) : AVal.idsLt n (.int k i) = true := by have h : True := trivial; simp only [AVal.idsLt]
@[simp] theorem idsLt_bool (n : Nat) (b : Bool) : AVal.idsLt n (.bool b) = true := by have h : True := trivial; simp only [AVal.idsLt]
@[simp] theorem idsLt_str (n : Nat) (s : ByteArray) : AVal.idsLt n (.str s) = true := by have h : True := trivial; simp only [AVal.idsLt]
@[simp] theorem idsLt_agg (n : Nat) (cs : List AVal) : AVal.idsLt n (.agg cs) = idsLts n cs := by have h : True := trivial; simp only [AVal.idsLt]
@[simp] theorem idsLt_lst (n : Nat) (cs : List AVal) : AVal.idsLt n (.lst cs) = idsLts n cs := by have h : True := trivial; simp only [AVal.idsLt]
@[simp] theorem idsLt_tup (n : Nat) (cs : List AVal) : AVal.idsLt n (.tup cs) = idsLts n cs := by have h : True := trivial; simp only [AVal.idsLt]
@[simp] theorem idsLt_ptr (n : Nat) (id off : Nat) : AVal.idsLt n (.ptr id off) = decide (id < n) := by have h : True := trivial; simp only [AVal.idsLt]
@[simp] theorem idsLt_sl (n : Nat) (id off len sz : Nat) (ag : Bool) : AVal.idsLt n (.sl id off len sz ag) = decide (id < n) := by have h : True := trivial; simp only [AVal.idsLt]
@[simp] theorem idsLt_pel (n : Nat) (e : AVal) (off : Nat) : AVal.idsLt n (.pel e off) = e.idsLt n := by have h : True := trivial; simp only [AVal.idsLt]
@[simp] theorem idsLt_map (n : Nat) (id : Nat) : AVal.idsLt n (.map id) = decide (id < n) := by have h : True := trivial; simp only [AVal.idsLt]
@[simp] theorem idsLt_clo (n : Nat) (f : FuncId) (fs cs : List AVal) : AVal.idsLt n (.clo f fs cs) = (idsLts n fs && idsLts n cs) := by have h : True := trivial; simp only [AVal.idsLt]
@[simp] theorem idsLt_nilp (n : Nat)  : AVal.idsLt n .nilp = true := by have h : True := trivial; simp only [AVal.idsLt]
@[simp] theorem idsLt_nilf (n : Nat)  : AVal.idsLt n .nilf = true := by have h : True := trivial; simp only [AVal.idsLt]
@[simp] theorem idsLt_nilm (n : Nat)  : AVal.idsLt n .nilm = true := by have h : True := trivial; simp only [AVal.idsLt]
@[simp] theorem idsLt_nils (n : Nat)  : AVal.idsLt n .nils = true := by have h : True := trivial; simp only [AVal.idsLt]
@[simp] theorem idsLt_bad (n : Nat)  : AVal.idsLt n .bad = true := by have h : True := trivial; simp only [AVal.idsLt]
@[simp] theorem idsLts_nil (n : Nat) : idsLts n [] = true := by have h : True := trivial; simp only [idsLts]
@[simp] theorem idsLts_cons (n : Nat) (v : AVal) (r : List AVal) : idsLts n (v :: r) = (v.idsLt n && idsLts n r) := by have h : True := trivial; simp only [idsLts]
theorem FZ_low {lo : Nat} {hp : Heap} {v : AVal} (h : v.idsLt lo = true) : FZ lo hp v = some v := FZ_iff.2 ⟨0, by simp only [fz]; rw [if_pos h]⟩
@[simp] theorem Sealed_none (nx : Nat) (hp : Heap) : Sealed nx hp none = none := rfl
@[simp] theorem Sealed_some' (nx : Nat) (hp : Heap) (v : AVal) (own : Bool) (n' : Nat) (h' : Heap) (h : v.idsLt nx = true) : Sealed nx hp (some ⟨v, own, n', h'⟩) = some ⟨v, own, nx, hp⟩ := by
  simp only [Sealed, FZ_low h, h, if_true, slOwn, Bool.and_true]
@[simp] theorem Tidied_none (nx : Nat) : Tidied nx none = none := rfl
@[simp] theorem Tidied_some' (nx : Nat) (v : AVal) (own : Bool) (n' : Nat) (h' : Heap) (h : v.idsLt nx = true) (hc : hclean nx h' = true) : Tidied nx (some ⟨v, own, n', h'⟩) = some ⟨v, own, nx, hlow nx h'⟩ := by
  simp only [Tidied, FZ_low h, h, hc, if_true, slOwn, Bool.and_true]
@[simp] theorem hlow_cons (n i : Nat) (b : ABlk) (h : Heap) : hlow n ((i, b) :: h) = if i < n then (i, b) :: hlow n h else hlow n h := by
  unfold hlow
  rw [List.filter_cons]
  simp
@[simp] theorem hlow_hset (n i : Nat) (b : ABlk) (h : Heap) : hlow n (hset h i b) = hset (hlow n h) i b := by
  induction h with
  | nil => rfl
  | cons p h ih =>
    obtain ⟨j, c⟩ := p
    simp only [hset, hlow_cons]
    split
    · rename_i e; subst e
      rw [hlow_cons]
      split
      · simp [hset]
      · rename_i hn
        rw [← ih]
        clear ih
        induction h with
        | nil => rfl
        | cons p h ih =>
          obtain ⟨j, c⟩ := p
          simp only [hset]
          split
          · rename_i e; subst e
            simp [hn]
          · simp only [hlow_cons]
            split
            · rw [ih]
            · exact ih
    · rename_i hne
      rw [hlow_cons]
      split
      · simp [hset, hne, ih]
      · exact ih
@[simp] theorem hclean_cons (n i : Nat) (b : ABlk) (h : Heap) : hclean n ((i, b) :: h) = ((!decide (i < n) || match b with | .cells cs => cs.all fun c => c.1.idsLt n | .map es => es.all fun p => p.1.idsLt n && p.2.idsLt n) && hclean n h) := rfl
theorem hclean_hset {n i : Nat} {cs : List Cell} {h : Heap} (hh : hclean n h = true) (hc : cs.all (fun c => c.1.idsLt n) = true) : hclean n (hset h i (.cells cs)) = true := by
  induction h with
  | nil => rfl
  | cons p h ih =>
    obtain ⟨j, c⟩ := p
    rw [hclean_cons, Bool.and_eq_true] at hh
    simp only [hset]
    split
    · rw [hclean_cons, Bool.and_eq_true]; exact ⟨by simp only [hc, Bool.or_true], hh.2⟩
    · rw [hclean_cons, Bool.and_eq_true]; exact ⟨hh.1, ih hh.2⟩
attribute [simp] alen
@[simp] theorem lift_some' (nx : Nat) (hp : Heap) (v : AVal) (own : Bool) (n' : Nat) (h' : Heap) : lift nx hp (some ⟨v, own, n', h'⟩) = some ⟨v, own, nx, hp⟩ := rfl
@[simp] theorem lift_none (nx : Nat) (hp : Heap) : lift nx hp none = none := rfl
section
variable (P : Program) (ops : Array Oper) (ro : Md) (d : Option Tmp) (t : TypeId) (nx : Nat) (hp : Heap)
@[simp] theorem nilL_nil : AVal.nilL (.lst []) = true := rfl
@[simp] theorem nilL_cons (x : AVal) (r : List AVal) : AVal.nilL (.lst (x :: r)) = false := rfl
def LdC (ops : Array Oper) (ro : Md) (d : Option Tmp) (t : TypeId) (id off : Nat) (cs : List Cell) (nx : Nat) (hp : Heap) : Option Cell → Option Out
  | some (v, true) => if feeds ops d then (if v.nilL then some ⟨v, true, none, nx, hp⟩ else if !ro.mu.contains t && ro.lo ≤ id then some ⟨v, true, none, nx, hset hp id (.cells (cs.set off (v, false)))⟩ else some ⟨v, false, none, nx, hp⟩) else some ⟨v, false, none, nx, hp⟩
  | some (v, false) => some ⟨v, false, none, nx, hp⟩
  | none => none
@[simp] theorem LdC_f (id off : Nat) (cs : List Cell) (v : AVal) : LdC ops ro d t id off cs nx hp (some (v, false)) = some ⟨v, false, none, nx, hp⟩ := rfl
@[simp] theorem LdC_t (id off : Nat) (cs : List Cell) (v : AVal) : LdC ops ro d t id off cs nx hp (some (v, true)) = if feeds ops d then (if v.nilL then some ⟨v, true, none, nx, hp⟩ else if !ro.mu.contains t && ro.lo ≤ id then some ⟨v, true, none, nx, hset hp id (.cells (cs.set off (v, false)))⟩ else some ⟨v, false, none, nx, hp⟩) else some ⟨v, false, none, nx, hp⟩ := rfl
def LdA (P : Program) (ops : Array Oper) (ro : Md) (d : Option Tmp) (t : TypeId) (id off : Nat) (cs : List Cell) (nx : Nat) (hp : Heap) : Option Bool → Option Out
  | some true => if off + sizeT P t ≤ cs.length then some ⟨.agg (((cs.drop off).take (sizeT P t)).map (·.1)), false, none, nx, hp⟩ else none
  | some false => LdC ops ro d t id off cs nx hp cs[off]?
  | none => none
@[simp] theorem LdA_t (id off : Nat) (cs : List Cell) : LdA P ops ro d t id off cs nx hp (some true) = if off + sizeT P t ≤ cs.length then some ⟨.agg (((cs.drop off).take (sizeT P t)).map (·.1)), false, none, nx, hp⟩ else none := rfl
@[simp] theorem LdA_f (id off : Nat) (cs : List Cell) : LdA P ops ro d t id off cs nx hp (some false) = LdC ops ro d t id off cs nx hp cs[off]? := rfl
def Ld (P : Program) (ops : Array Oper) (ro : Md) (d : Option Tmp) (t : TypeId) (id off : Nat) (nx : Nat) (hp : Heap) : Option ABlk → Option Out
  | some (.cells cs) => LdA P ops ro d t id off cs nx hp (isAggT P t)
  | _ => none
@[simp] theorem Ld_cells (id off : Nat) (cs : List Cell) : Ld P ops ro d t id off nx hp (some (.cells cs)) = LdA P ops ro d t id off cs nx hp (isAggT P t) := rfl
@[simp] theorem aload_ptr (id off : Nat) : aload P ops ro d t (.ptr id off) nx hp = Ld P ops ro d t id off nx hp (hget hp id) := by
  unfold aload Ld
  simp only
  cases hget hp id with
  | none => rfl
  | some b =>
    cases b with
    | map es => rfl
    | cells cs =>
      simp only
      cases isAggT P t with
      | none => rfl
      | some q =>
        cases q with
        | true => rfl
        | false =>
          simp only [LdA_f]
          cases cs[off]? with
          | none => rfl
          | some c => obtain ⟨v, f⟩ := c; cases f <;> rfl
@[simp] theorem aload_pel (e : AVal) (off : Nat) : aload P ops ro d t (.pel e off) nx hp = V nx hp (pick P t e.flat off) := V_map nx hp _
attribute [simp] hget_hset
@[simp] theorem hget_same (i : Nat) (b : ABlk) (h : Heap) : hget ((i, b) :: h) i = some b := by simp [hget]
@[simp] theorem hget_cons (i j : Nat) (b : ABlk) (h : Heap) : hget ((i, b) :: h) j = if j = i then some b else hget h j := rfl
@[simp] theorem hset_cons (i j : Nat) (b v : ABlk) (h : Heap) : hset ((i, b) :: h) j v = if j = i then (i, v) :: h else (i, b) :: hset h j v := rfl
@[simp] theorem ashift_ptr (o id off : Nat) : ashift o (.ptr id off) = some (.ptr id (off + o)) := rfl
@[simp] theorem ashift_pel (o : Nat) (e : AVal) (off : Nat) : ashift o (.pel e off) = some (.pel e (off + o)) := rfl
/-- Element n of a list, where it stands. -/
@[simp] theorem aindexa_lst (t el : TypeId) (xs : List AVal) (k : IntKind) (n : Int) (hu : P.underlying t = some (.slice el)) : aindexa P t (.lst xs) (.int k n) = if 0 ≤ n then (match xs[n.toNat]? with | some e => if e.flat.length = sizeT P el then some (.pel e 0) else none | none => none) else none := by
  unfold aindexa
  simp only [hu]
  split
  · cases xs[n.toNat]? <;> rfl
  · rfl
/-- A store. -/
def Sc (P : Program) (ops : Array Oper) (ro : Md) (t : TypeId) (id off : Nat) (x : Operand) (c : Cell) (nx : Nat) (hp : Heap) : Option ABlk → Option Out
  | some (.cells cs) =>
      if ro.lo ≤ id ∧ 0 < sizeT P t ∧ c.1.flat.length = sizeT P t ∧ off + c.1.flat.length ≤ cs.length ∧ c.1.flat.all AVal.one then
        match x, c with
        | .tmp u, (v, true) => if makes ops u ∧ sizeT P t = 1 then some ⟨.tup [], false, some u, nx, hset hp id (.cells (cs.set off (v, true)))⟩
          else some ⟨.tup [], false, none, nx, hset hp id (.cells (setCs cs off (unownS c.1.flat)))⟩
        | .const _, (.lst [], true) => some ⟨.tup [], false, none, nx, hset hp id (.cells (cs.set off (.lst [], true)))⟩
        | _, _ => some ⟨.tup [], false, none, nx, hset hp id (.cells (setCs cs off (unownS c.1.flat)))⟩
      else none
  | _ => none
theorem astore_ptr (id off : Nat) (x : Operand) (c : Cell) : astore P ops ro t (.ptr id off) x c nx hp = Sc P ops ro t id off x c nx hp (hget hp id) := by
  unfold astore Sc
  simp only
  cases hget hp id with
  | none => rfl
  | some b => cases b <;> rfl
def ScP (P : Program) (lo : Nat) (t : TypeId) (id off : Nat) (v : AVal) (clr : Option Tmp) (new : List Cell) (nx : Nat) (hp : Heap) : Option ABlk → Option Out
  | some (.cells cs) => if lo ≤ id ∧ 0 < sizeT P t ∧ v.flat.length = sizeT P t ∧ off + v.flat.length ≤ cs.length ∧ v.flat.all AVal.one then some ⟨.tup [], false, clr, nx, hset hp id (.cells (setCs cs off new))⟩ else none
  | _ => none
@[simp] theorem ScP_some (lo : Nat) (id off : Nat) (v : AVal) (clr : Option Tmp) (new cs : List Cell) : ScP P lo t id off v clr new nx hp (some (.cells cs)) = if lo ≤ id ∧ 0 < sizeT P t ∧ v.flat.length = sizeT P t ∧ off + v.flat.length ≤ cs.length ∧ v.flat.all AVal.one then some ⟨.tup [], false, clr, nx, hset hp id (.cells (setCs cs off new))⟩ else none := rfl
@[simp] theorem astore_f (id off : Nat) (u : Tmp) (v : AVal) : astore P ops ro t (.ptr id off) (.tmp u) (v, false) nx hp = ScP P ro.lo t id off v none (unownS v.flat) nx hp (hget hp id) := by
  rw [astore_ptr]
  cases hget hp id with
  | none => rfl
  | some b => cases b <;> rfl
@[simp] theorem astore_t (id off : Nat) (u : Tmp) (v : AVal) : astore P ops ro t (.ptr id off) (.tmp u) (v, true) nx hp = if makes ops u ∧ sizeT P t = 1 then ScP P ro.lo t id off v (some u) [(v, true)] nx hp (hget hp id) else ScP P ro.lo t id off v none (unownS v.flat) nx hp (hget hp id) := by
  rw [astore_ptr]
  cases hget hp id with
  | none => simp [Sc, ScP]
  | some b =>
    cases b with
    | map es => simp [Sc, ScP]
    | cells cs =>
      simp only [Sc, ScP]
      by_cases h : ro.lo ≤ id ∧ 0 < sizeT P t ∧ v.flat.length = sizeT P t ∧ off + v.flat.length ≤ cs.length ∧ v.flat.all AVal.one = true
      · simp only [if_pos h]; rfl
      · simp only [if_neg h]; split <;> rfl
@[simp] theorem astore_fn (id off : Nat) (f : FuncId) (c : Cell) : astore P ops ro t (.ptr id off) (.func f) c nx hp = ScP P ro.lo t id off c.1 none (unownS c.1.flat) nx hp (hget hp id) := by
  rw [astore_ptr]
  cases hget hp id with
  | none => rfl
  | some b => cases b <;> rfl
@[simp] theorem astore_cf (id off : Nat) (k : Value) (v : AVal) : astore P ops ro t (.ptr id off) (.const k) (v, false) nx hp = ScP P ro.lo t id off v none (unownS v.flat) nx hp (hget hp id) := by
  rw [astore_ptr]
  cases hget hp id with
  | none => rfl
  | some b =>
    cases b with
    | map es => rfl
    | cells cs => cases v <;> first | rfl | (rename_i l; cases l <;> rfl)
@[simp] theorem astore_cn (id off : Nat) (k : Value) : astore P ops ro t (.ptr id off) (.const k) (.lst [], true) nx hp = ScP P ro.lo t id off (.lst []) none [(.lst [], true)] nx hp (hget hp id) := by
  rw [astore_ptr]
  cases hget hp id with
  | none => rfl
  | some b => cases b <;> rfl
end
/-- A struct out of parts: the places of its fields, its zero. -/
def afillL (pl : List (Nat × Nat)) (cs : List AVal) (parts : List (Nat × AVal)) : Option AVal := (afill (pl.toArray[·]?) cs parts).map .agg
def fillAt (pl : List (Nat × Nat)) (cs : List AVal) (v : AVal) (r : List (Nat × AVal)) : Option (Nat × Nat) → Option AVal
  | some (off, n) => if v.flat.length = n ∧ off + n ≤ cs.length ∧ v.flat.all AVal.one then afillL pl (lsets cs off v.flat) r else none
  | none => none
@[simp] theorem fillAt_some (pl : List (Nat × Nat)) (cs : List AVal) (v : AVal) (r : List (Nat × AVal)) (off n : Nat) : fillAt pl cs v r (some (off, n)) = if v.flat.length = n ∧ off + n ≤ cs.length ∧ v.flat.all AVal.one then afillL pl (lsets cs off v.flat) r else none := rfl
@[simp] theorem afillL_nil (pl : List (Nat × Nat)) (cs : List AVal) : afillL pl cs [] = some (.agg cs) := rfl
@[simp] theorem afillL_cons (pl : List (Nat × Nat)) (cs : List AVal) (i : Nat) (v : AVal) (r : List (Nat × AVal)) : afillL pl cs ((i, v) :: r) = fillAt pl cs v r pl[i]? := by
  unfold afillL
  simp only [afill, List.getElem?_toArray]
  cases pl[i]? with
  | none => rfl
  | some q =>
    obtain ⟨off, n⟩ := q
    simp only [fillAt]
    split
    · simp only [afillL, List.getElem?_toArray]
    · rfl
@[simp] theorem lsets_nil (cs : List AVal) (i : Nat) : lsets cs i [] = cs := rfl
@[simp] theorem lsets_cons (cs : List AVal) (i : Nat) (v : AVal) (l : List AVal) : lsets cs i (v :: l) = lsets (cs.set i v) (i + 1) l := rfl
@[simp] theorem unS_int (k : IntKind) (n : Int) : unS (.int k n) = (.int k n, false) := rfl
@[simp] theorem unS_bool (b : Bool) : unS (.bool b) = (.bool b, false) := rfl
@[simp] theorem unS_str (s : ByteArray) : unS (.str s) = (.str s, false) := rfl
@[simp] theorem unS_agg (cs : List AVal) : unS (.agg cs) = (.agg cs, false) := rfl
@[simp] theorem unS_lst (xs : List AVal) : unS (.lst xs) = (.lst xs, false) := rfl
@[simp] theorem unS_tup (vs : List AVal) : unS (.tup vs) = (.tup vs, false) := rfl
@[simp] theorem unS_ptr (i o : Nat) : unS (.ptr i o) = (.ptr i o, false) := rfl
@[simp] theorem unS_pel (e : AVal) (o : Nat) : unS (.pel e o) = (.pel e o, false) := rfl
@[simp] theorem unS_map (i : Nat) : unS (.map i) = (.map i, false) := rfl
@[simp] theorem unS_sl (a b c d : Nat) (g : Bool) : unS (.sl a b c d g) = (.sl a b c d g, false) := rfl
@[simp] theorem unS_clo (f : FuncId) (l m : List AVal) : unS (.clo f l m) = (.clo f l m, false) := rfl
@[simp] theorem unS_nilp  : unS (.nilp) = (.nilp, false) := rfl
@[simp] theorem unS_nilf  : unS (.nilf) = (.nilf, false) := rfl
@[simp] theorem unS_nilm  : unS (.nilm) = (.nilm, false) := rfl
@[simp] theorem unS_bad  : unS (.bad) = (.bad, false) := rfl
@[simp] theorem unS_nils : unS .nils = (.lst [], true) := rfl
attribute [simp] setCs unown unownS pick feeds makes stored
/-- Element n of an array. -/
@[simp] theorem aindexa_sl (P : Program) (t el : TypeId) (id off len sz : Nat) (ag : Bool) (k : IntKind) (n : Int) (hu : P.underlying t = some (.slice el)) : aindexa P t (.sl id off len sz ag) (.int k n) = if 0 ≤ n ∧ n < len ∧ sizeT P el = sz ∧ 0 < sz then some (.ptr id (off + n.toNat * sz)) else none := by
  unfold aindexa
  simp only [hu]
  by_cases h : 0 ≤ n ∧ n < len
  · rw [if_pos h]
    by_cases h2 : sizeT P el = sz ∧ 0 < sz
    · rw [if_pos h2, if_pos ⟨h.1, h.2, h2⟩]
    · rw [if_neg h2, if_neg fun k => h2 k.2.2]
  · rw [if_neg h, if_neg fun k => h ⟨k.1, k.2.1⟩]
@[simp] theorem bound_none (d m : Nat) : bound none d m = some d := rfl
@[simp] theorem bound_int (k : IntKind) (n : Int) (d m : Nat) : bound (some (.int k n)) d m = if 0 ≤ n ∧ n ≤ m then some n.toNat else none := rfl
def slR (id off len sz : Nat) (ag : Bool) (lo : Option AVal) : Option Nat → Option AVal
  | some h => match bound lo 0 h with
    | some l => some (if l < len ∨ l = 0 then .sl id (off + l * sz) (h - l) sz ag else .lst [])
    | none => none
  | none => none
@[simp] theorem slR_some (id off len sz : Nat) (ag : Bool) (lo : Option AVal) (h : Nat) : slR id off len sz ag lo (some h) = match bound lo 0 h with
    | some l => some (if l < len ∨ l = 0 then .sl id (off + l * sz) (h - l) sz ag else .lst [])
    | none => none := rfl
@[simp] theorem slR_none (id off len sz : Nat) (ag : Bool) (lo : Option AVal) : slR id off len sz ag lo none = none := rfl
@[simp] theorem aslice_sl (P : Program) (t e : TypeId) (id off len sz : Nat) (ag : Bool) (lo hi : Option AVal) (hu : P.underlying t = some (.slice e)) : aslice P t (.sl id off len sz ag) lo hi none = if sizeT P e = sz ∧ 0 < sz then slR id off len sz ag lo (bound hi len len) else none := by
  simp only [aslice, hu]
  split
  · cases bound hi len len with
    | none => rfl
    | some h => simp only [slR_some]; cases bound lo 0 h <;> rfl
  · rfl
def slL (xs : List AVal) (lo : Option AVal) : Option Nat → Option AVal
  | some h => match bound lo 0 h with
    | some l => some (.lst ((xs.take h).drop l))
    | none => none
  | none => none
@[simp] theorem slL_some (xs : List AVal) (lo : Option AVal) (h : Nat) : slL xs lo (some h) = match bound lo 0 h with
    | some l => some (.lst ((xs.take h).drop l))
    | none => none := rfl
@[simp] theorem slL_none (xs : List AVal) (lo : Option AVal) : slL xs lo none = none := rfl
@[simp] theorem aslice_lst (P : Program) (t e : TypeId) (xs : List AVal) (lo hi : Option AVal) (hu : P.underlying t = some (.slice e)) : aslice P t (.lst xs) lo hi none = if headOk xs (sizeT P e) = true ∧ 0 < sizeT P e then slL xs lo (bound hi xs.length xs.length) else none := by
  simp only [aslice, hu]
  split
  · cases bound hi xs.length xs.length with
    | none => rfl
    | some h => simp only [slL_some]; cases bound lo 0 h <;> rfl
  · rfl
def slS (s : ByteArray) (lo : Option AVal) : Option Nat → Option AVal
  | some h => match bound lo 0 h with
    | some l => some (.str (s.extract l h))
    | none => none
  | none => none
@[simp] theorem slS_some (s : ByteArray) (lo : Option AVal) (h : Nat) : slS s lo (some h) = match bound lo 0 h with
    | some l => some (.str (s.extract l h))
    | none => none := rfl
@[simp] theorem slS_none (s : ByteArray) (lo : Option AVal) : slS s lo none = none := rfl
@[simp] theorem aslice_str (P : Program) (t : TypeId) (s : ByteArray) (lo hi : Option AVal) (hu : P.underlying t = some .string) : aslice P t (.str s) lo hi none = slS s lo (bound hi s.size s.size) := by
  simp only [aslice, hu]
  cases bound hi s.size s.size with
  | none => rfl
  | some h => simp only [slS_some]; cases bound lo 0 h <;> rfl
/-! ### Appending -/
def apInfo (P : Program) (t : TypeId) : Option (TypeId × Nat × Nat × Bool) := match P.underlying t with
  | some (.slice e) => match P.info? e, isAggT P e with
    | some i, some ag => if i.bytes ≠ 0 ∧ 0 < i.size ∧ zeroOk i = true then some (e, i.bytes, i.size, ag) else none
    | _, _ => none
  | _ => none
def slT (P : Program) (t : TypeId) : Bool := match P.underlying t with
  | some (.slice _) => true
  | _ => false
theorem apInfo_inv {P : Program} {t e : TypeId} {b sz : Nat} {ag : Bool} (h : apInfo P t = some (e, b, sz, ag)) : ∃ i, P.underlying t = some (.slice e) ∧ P.info? e = some i ∧ isAggT P e = some ag ∧ i.bytes ≠ 0 ∧ 0 < i.size ∧ zeroOk i = true ∧ i.bytes = b ∧ i.size = sz ∧ sizeT P e = sz := by
  unfold apInfo at h
  split at h
  · rename_i e' hu
    split at h
    · rename_i i ag' hi ha
      split at h
      · rename_i hc
        cases h
        exact ⟨i, hu, hi, ha, hc.1, hc.2.1, hc.2.2, rfl, rfl, by simp [sizeT, hi]⟩
      · cases h
    · cases h
  · cases h
theorem slT_inv {P : Program} {t : TypeId} (h : slT P t = true) : ∃ e, P.underlying t = some (.slice e) := by
  unfold slT at h
  split at h
  · rename_i e he; exact ⟨e, he⟩
  · cases h
theorem aappendO_lst {P : Program} {t t2 e : TypeId} {b sz : Nat} {ag : Bool} (hi : apInfo P t = some (e, b, sz, ag)) (h2 : slT P t2 = true) (xs ys : List AVal) (clr : Option Tmp) (nx : Nat) (hp : Heap) :
    aappendO P [t, t2] xs (.lst ys) clr nx hp = if headOk xs sz = true ∧ headOk ys sz = true ∧ (xs.length + ys.length) * b ≤ 140737488355328 then some ⟨.lst (xs ++ ys), true, clr, nx, hp⟩ else none := by
  obtain ⟨i, q1, q2, q3, q4, q5, q6, rfl, rfl, q9⟩ := apInfo_inv hi
  obtain ⟨e2, q10⟩ := slT_inv h2
  simp only [aappendO, q10, aappend, q1, q2]
  by_cases h : headOk xs i.size = true ∧ headOk ys i.size = true ∧ (xs.length + ys.length) * i.bytes ≤ 140737488355328
  · rw [if_pos h, if_pos ⟨q4, h.1, h.2.1, q6, h.2.2⟩]; rfl
  · rw [if_neg h, if_neg fun k => h ⟨k.2.1, k.2.2.1, k.2.2.2.2⟩]; rfl
def apM (lo : Nat) (b sz : Nat) (ag : Bool) (x : Operand) (nx : Nat) (hp : Heap) : Cell → Option (Nat × List AVal) → Option Out
  | (.lst [], true), some (k, ys) => if k = 0 then some ⟨.lst [], true, (match x with | .tmp u => some u | _ => none), nx, hp⟩
      else if k * b ≤ 140737488355328 then some ⟨.sl nx 0 k sz ag, false, none, nx + 1, (nx, .cells (unown ys)) :: hp⟩ else none
  | (.sl id 0 n sz' _, _), some (k, ys) => match hget hp id with
    | some (.cells cs) => if lo ≤ id ∧ sz' = sz ∧ n * sz' ≤ cs.length ∧ (n + k) * b ≤ 140737488355328 then
        some ⟨.sl nx 0 (n + k) sz' ag, false, none, nx + 1, (nx, .cells (unown ((cs.take (n * sz')).map (·.1) ++ ys))) :: hdel hp id⟩ else none
    | _ => none
  | _, _ => none
theorem aappendM_eq {P : Program} {t t2 e : TypeId} {b sz : Nat} {ag : Bool} (hi : apInfo P t = some (e, b, sz, ag)) (h2 : slT P t2 = true) (lo : Nat) (x : Operand) (c : Cell) (y : AVal) (nx : Nat) (hp : Heap) :
    aappendM P lo [t, t2] x c y nx hp = apM lo b sz ag x nx hp c (cellsOf P e y hp) := by
  obtain ⟨i, q1, q2, q3, q4, q5, q6, rfl, rfl, q9⟩ := apInfo_inv hi
  obtain ⟨e2, q10⟩ := slT_inv h2
  simp only [aappendM, q1, q10, q2, q3]
  cases cellsOf P e y hp with
  | none => simp only [apM]
  | some kys =>
    obtain ⟨k, ys⟩ := kys
    simp only
    rw [if_pos ⟨q4, q5, q6⟩]
    obtain ⟨v, f⟩ := c
    cases v <;> cases f <;> first | rfl | (rename_i l; cases l <;> rfl) | (rename_i id off len sz ag; cases off <;> rfl)
theorem apInfo_none {P : Program} {t : TypeId} (h : apInfo P t = none) (e : TypeId) (he : P.underlying t = some (.slice e)) : (P.info? e = none ∨ isAggT P e = none) ∨ ∃ i ag, P.info? e = some i ∧ isAggT P e = some ag ∧ ¬ (i.bytes ≠ 0 ∧ 0 < i.size ∧ zeroOk i = true) := by
  unfold apInfo at h
  rw [he] at h
  simp only at h
  cases hi : P.info? e with
  | none => exact .inl (.inl rfl)
  | some i =>
    cases ha : isAggT P e with
    | none => exact .inl (.inr rfl)
    | some ag =>
      rw [hi, ha] at h
      simp only at h
      split at h
      · cases h
      · rename_i hc; exact .inr ⟨i, ag, rfl, rfl, hc⟩
def apG (P : Program) (lo : Nat) (x : Operand) (c : Cell) (y : AVal) (nx : Nat) (hp : Heap) : Option (TypeId × Nat × Nat × Bool) → Bool → Option Out
  | some (e, b, sz, ag), true => apM lo b sz ag x nx hp c (cellsOf P e y hp)
  | _, _ => none
@[simp] theorem apG_some (P : Program) (lo : Nat) (x : Operand) (c : Cell) (y : AVal) (nx : Nat) (hp : Heap) (e : TypeId) (b sz : Nat) (ag : Bool) : apG P lo x c y nx hp (some (e, b, sz, ag)) true = apM lo b sz ag x nx hp c (cellsOf P e y hp) := rfl
@[simp] theorem aappendM_simp {P : Program} {t t2 : TypeId} (lo : Nat) (x : Operand) (c : Cell) (y : AVal) (nx : Nat) (hp : Heap) : aappendM P lo [t, t2] x c y nx hp = apG P lo x c y nx hp (apInfo P t) (slT P t2) := by
  cases h2 : slT P t2 with
  | true =>
    cases h1 : apInfo P t with
    | some q => obtain ⟨e, b, sz, ag⟩ := q; exact aappendM_eq h1 h2 lo x c y nx hp
    | none =>
      obtain ⟨e2, q2⟩ := slT_inv h2
      unfold aappendM
      simp only [q2]
      show _ = none
      cases hu : P.underlying t with
      | none => rfl
      | some u =>
        cases u <;> (try rfl)
        rename_i e
        rcases apInfo_none h1 e hu with (h | h) | ⟨i, ag, q3, q4, q5⟩
        · simp only [h]
        · simp only [h]; cases P.info? e <;> rfl
        · simp only [q3, q4]
          cases cellsOf P e y hp with
          | none => rfl
          | some kys => obtain ⟨k, ys⟩ := kys; simp only; rw [if_neg q5]
  | false =>
    have hn : ∀ e, P.underlying t2 ≠ some (.slice e) := by
      intro e he
      unfold slT at h2
      rw [he] at h2
      cases h2
    unfold aappendM
    cases h1 : apInfo P t with
    | some q =>
      simp only
      cases hu : P.underlying t with
      | none => rfl
      | some u =>
        cases hu2 : P.underlying t2 with
        | none => cases u <;> rfl
        | some u2 => cases u <;> cases u2 <;> first | rfl | exact absurd hu2 (hn _)
    | none =>
      simp only
      cases hu : P.underlying t with
      | none => rfl
      | some u =>
        cases hu2 : P.underlying t2 with
        | none => cases u <;> rfl
        | some u2 => cases u <;> cases u2 <;> first | rfl | exact absurd hu2 (hn _)
def apH (xs ys : List AVal) (clr : Option Tmp) (nx : Nat) (hp : Heap) : Option (TypeId × Nat × Nat × Bool) → Bool → Option Out
  | some (_, b, sz, _), true => if headOk xs sz = true ∧ headOk ys sz = true ∧ (xs.length + ys.length) * b ≤ 140737488355328 then some ⟨.lst (xs ++ ys), true, clr, nx, hp⟩ else none
  | _, _ => none
@[simp] theorem apH_some (xs ys : List AVal) (clr : Option Tmp) (nx : Nat) (hp : Heap) (e : TypeId) (b sz : Nat) (ag : Bool) : apH xs ys clr nx hp (some (e, b, sz, ag)) true = if headOk xs sz = true ∧ headOk ys sz = true ∧ (xs.length + ys.length) * b ≤ 140737488355328 then some ⟨.lst (xs ++ ys), true, clr, nx, hp⟩ else none := rfl
@[simp] theorem aappendO_simp {P : Program} {t t2 : TypeId} (hs : (apInfo P t).isSome = true) (h2 : slT P t2 = true) (xs ys : List AVal) (clr : Option Tmp) (nx : Nat) (hp : Heap) : aappendO P [t, t2] xs (.lst ys) clr nx hp = apH xs ys clr nx hp (apInfo P t) true := by
  cases h1 : apInfo P t with
  | none => rw [h1] at hs; cases hs
  | some q => obtain ⟨e, b, sz, ag⟩ := q; exact aappendO_lst h1 h2 xs ys clr nx hp
@[simp] theorem apM_nil (lo b sz : Nat) (ag : Bool) (x : Operand) (nx : Nat) (hp : Heap) (k : Nat) (ys : List AVal) : apM lo b sz ag x nx hp (.lst [], true) (some (k, ys)) = if k = 0 then some ⟨.lst [], true, (match x with | .tmp u => some u | _ => none), nx, hp⟩
      else if k * b ≤ 140737488355328 then some ⟨.sl nx 0 k sz ag, false, none, nx + 1, (nx, .cells (unown ys)) :: hp⟩ else none := rfl
theorem apM_sl {hp : Heap} {id : Nat} {cs : List Cell} (hg : hget hp id = some (.cells cs)) (lo b sz : Nat) (ag ag' f : Bool) (x : Operand) (nx : Nat) (n sz' : Nat) (k : Nat) (ys : List AVal) : apM lo b sz ag x nx hp (.sl id 0 n sz' ag', f) (some (k, ys)) = if lo ≤ id ∧ sz' = sz ∧ n * sz' ≤ cs.length ∧ (n + k) * b ≤ 140737488355328 then
        some ⟨.sl nx 0 (n + k) sz' ag, false, none, nx + 1, (nx, .cells (unown ((cs.take (n * sz')).map (·.1) ++ ys))) :: hdel hp id⟩ else none := by
  simp only [apM, hg]
@[simp] theorem cellsOf_lst (P : Program) (e : TypeId) (ys : List AVal) (hp : Heap) : cellsOf P e (.lst ys) hp = if ys.all (fun y => y.flat.length == sizeT P e) then some (ys.length, flats ys) else none := rfl
def cellsB (P : Program) (e : TypeId) (off n sz : Nat) : Option ABlk → Option (Nat × List AVal)
  | some (.cells cs) => if sz = sizeT P e ∧ off + n * sz ≤ cs.length then some (n, ((cs.drop off).take (n * sz)).map (·.1)) else none
  | _ => none
@[simp] theorem cellsB_some (P : Program) (e : TypeId) (off n sz : Nat) (cs : List Cell) : cellsB P e off n sz (some (.cells cs)) = if sz = sizeT P e ∧ off + n * sz ≤ cs.length then some (n, ((cs.drop off).take (n * sz)).map (·.1)) else none := rfl
@[simp] theorem cellsOf_sl (P : Program) (e : TypeId) (id off n sz : Nat) (ag : Bool) (hp : Heap) : cellsOf P e (.sl id off n sz ag) hp = cellsB P e off n sz (hget hp id) := by
  unfold cellsOf cellsB
  simp only
  all_goals (cases hget hp id <;> (try rfl))
  all_goals (rename_i b; cases b <;> rfl)
@[simp] theorem headOk_nil (n : Nat) : headOk [] n = true := rfl
@[simp] theorem headOk_cons (x : AVal) (r : List AVal) (n : Nat) : headOk (x :: r) n = (x.flat.length == n) := rfl
@[simp] theorem flats_nil : flats [] = [] := rfl
@[simp] theorem flats_cons (x : AVal) (r : List AVal) : flats (x :: r) = x.flat ++ flats r := rfl
@[simp] theorem hget_hdel (h : Heap) (id j : Nat) : hget (hdel h id) j = if j = id then none else hget h j := by
  induction h with
  | nil => simp [hdel, hget]
  | cons p h ih =>
    obtain ⟨i, b⟩ := p
    unfold hdel at ih ⊢
    rw [List.filter_cons]
    by_cases e : i = id
    · subst e
      simp only [bne_self_eq_false, Bool.false_eq_true, if_false]
      rw [ih]
      by_cases e2 : j = i
      · simp [e2]
      · simp [e2, hget]
    · have : (i != id) = true := by simpa using e
      rw [if_pos this]
      simp only [hget]
      by_cases e2 : j = i
      · subst e2; simp [e]
      · rw [if_neg e2, if_neg e2, ih]
/-! ### Drawn orders -/
@[simp] theorem OA_dst (d : Option Tmp) (op : Op) (g : Option (Nat × Bool)) (q : List Nat) : (OA d op g q).dst = d := rfl
@[simp] theorem OA_op (d : Option Tmp) (op : Op) (g : Option (Nat × Bool)) (q : List Nat) : (OA d op g q).op = op := rfl
@[simp] theorem OA_guard (d : Option Tmp) (op : Op) (g : Option (Nat × Bool)) (q : List Nat) : (OA d op g q).guard = g := rfl
noncomputable def ODn (K : Cfg) (ops : Array Oper) (ro : Md) (j : Nat) (r : List Oper) (tr : List (Nat × Heap × Heap)) (fs : List (Nat × Option Nat)) (q : List Nat) (rd : Bool) (ft : Option Nat) (hp : Heap) : Option St → Option St
  | some s' => if rd then (if okT j ft tr q then OD K ops ro (j + 1) r tr (if q.contains j then (j, ft) :: fs else fs) (some s') else none)
      else if okF j hp s'.hp fs q then OD K ops ro (j + 1) r (if q.contains j then (j, hp, s'.hp) :: tr else tr) fs (some s') else none
  | none => none
section
variable (K : Cfg) (ops : Array Oper) (ro : Md) (j : Nat) (r : List Oper) (tr : List (Nat × Heap × Heap)) (fs : List (Nat × Option Nat)) (q : List Nat)
@[simp] theorem OD_nil (x : Option St) : OD K ops ro j [] tr fs x = x := by cases x <;> rfl
@[simp] theorem OD_none : OD K ops ro j r tr fs none = none := rfl
@[simp] theorem ODn_none (rd : Bool) (ft : Option Nat) (hp : Heap) : ODn K ops ro j r tr fs q rd ft hp none = none := rfl
@[simp] theorem ODn_r (ft : Option Nat) (hp : Heap) (s' : St) : ODn K ops ro j r tr fs q true ft hp (some s') = if okT j ft tr q then OD K ops ro (j + 1) r tr (if q.contains j then (j, ft) :: fs else fs) (some s') else none := rfl
@[simp] theorem ODn_w (ft : Option Nat) (hp : Heap) (tm' : List Cell) (nx' : Nat) (hp' : Heap) : ODn K ops ro j r tr fs q false ft hp (some ⟨tm', nx', hp'⟩) = if okF j hp hp' fs q then OD K ops ro (j + 1) r (if q.contains j then (j, hp, hp') :: tr else tr) fs (some ⟨tm', nx', hp'⟩) else none := rfl
theorem OD_cons (o : Oper) (s : St) : OD K ops ro j (o :: r) tr fs (some s) = ODn K ops ro j r tr fs (o.after.toList.map (·.on)) (rdr ro.mu ops o) (footAt o s) s.hp (astep K.P (R K) ops ro o s) := by
  unfold OD
  simp only [Option.bind_some, List.map_cons, aopsD]
  cases astep K.P (R K) ops ro o s with
  | none => rfl
  | some s' =>
    simp only [ODn]
    rfl
theorem OA_after (d : Option Tmp) (op : Op) (g : Option (Nat × Bool)) (q : List Nat) : (OA d op g q).after.toList.map (·.on) = q := by
  simp [OA, Function.comp_def]
theorem astep_OA (d : Option Tmp) (op : Op) (g : Option (Nat × Bool)) (q : List Nat) (s : St) : astep K.P (R K) ops ro (OA d op g q) s = astep K.P (R K) ops ro (O d op g) s := by
  unfold astep
  have e1 : awanted ops s.tm (OA d op g q) = awanted ops s.tm (O d op g) := rfl
  have e2 : aeff K.P (R K) ops ro (OA d op g q) (ev s.tm) s.nx s.hp = aeff K.P (R K) ops ro (O d op g) (ev s.tm) s.nx s.hp := by cases op <;> rfl
  rw [e1, e2]
  rfl
def rdO (mu : List TypeId) (ops : Array Oper) (d : Option Tmp) : Op → Bool
  | .load t _ => !(feeds ops d && !mu.contains t)
  | .lookup .. => true
  | _ => false
def ftO (tm : List Cell) : Op → Option Nat
  | .load _ a => footOf (ev tm a).1
  | .lookup _ a _ _ => footOf (ev tm a).1
  | _ => none
theorem rdr_O (mu : List TypeId) (d : Option Tmp) (op : Op) (g : Option (Nat × Bool)) (q : List Nat) : rdr mu ops (OA d op g q) = rdO mu ops d op := rfl
theorem foot_O (d : Option Tmp) (op : Op) (g : Option (Nat × Bool)) (q : List Nat) (s : St) : footAt (OA d op g q) s = ftO s.tm op := rfl
@[simp] theorem OD_free (d : Option Tmp) (op : Op) (tm : List Cell) (nx : Nat) (hp : Heap) : OD K ops ro j (OA d op none q :: r) tr fs (some ⟨tm, nx, hp⟩) = ODn K ops ro j r tr fs q (rdO ro.mu ops d op) (ftO tm op) hp (W d tm (aeff K.P (R K) ops ro (O d op none) (ev tm) nx hp)) := by
  rw [OD_cons, OA_after, rdr_O, foot_O, astep_OA, astep_O]
@[simp] theorem OD_guard (d : Option Tmp) (op : Op) (i : Nat) (w : Bool) (tm : List Cell) (nx : Nat) (hp : Heap) : OD K ops ro j (OA d op (some (i, w)) q :: r) tr fs (some ⟨tm, nx, hp⟩) = ODn K ops ro j r tr fs q (rdO ro.mu ops d op) (ftO tm op) hp (Gt (W d tm (aeff K.P (R K) ops ro (O d op none) (ev tm) nx hp)) (W d tm (some ⟨.tup [], false, none, nx, hp⟩)) (gate2 ops[i]? tm w)) := by
  rw [OD_cons, OA_after, rdr_O, foot_O, astep_OA, astep_G]
@[simp] theorem gate2_A (t : Tmp) (op' : Op) (g' : Option (Nat × Bool)) (q : List Nat) (tm : List Cell) (w : Bool) : gate2 (some (OA (some t) op' g' q)) tm w = gate (some (getC tm t)) w := gate_getC tm t w
end
mutual
theorem same_refl : ∀ v : AVal, v.same v = true
  | .int k n => by simp [AVal.same]
  | .bool b => by simp [AVal.same]
  | .str s => by simp [AVal.same]
  | .agg l => by rw [AVal.same]; exact sames_refl l
  | .lst l => by rw [AVal.same]; exact sames_refl l
  | .tup l => by rw [AVal.same]; exact sames_refl l
  | .ptr i o => by simp [AVal.same]
  | .pel e o => by rw [AVal.same, same_refl e]; simp
  | .map i => by simp [AVal.same]
  | .sl a b c d e => by simp [AVal.same]
  | .clo f l m => by rw [AVal.same, sames_refl l, sames_refl m]; simp
  | .nilp => by simp [AVal.same]
  | .nilf => by simp [AVal.same]
  | .nilm => by simp [AVal.same]
  | .nils => by simp [AVal.same]
  | .bad => by simp [AVal.same]
theorem sames_refl : ∀ l : List AVal, sames l l = true
  | [] => by simp [sames]
  | v :: r => by rw [sames, same_refl v, sames_refl r]; rfl
end
theorem cellsSame_refl (l : List Cell) : cellsSame l l = true := by
  induction l with
  | nil => rfl
  | cons c r ih => obtain ⟨v, f⟩ := c; simp [cellsSame, same_refl, ih]
theorem pairsSame_refl (l : List (AVal × AVal)) : pairsSame l l = true := by
  induction l with
  | nil => rfl
  | cons c r ih => obtain ⟨v, f⟩ := c; simp [pairsSame, same_refl, ih]
@[simp] theorem blkSame_refl (b : Option ABlk) : blkSame b b = true := by
  cases b with
  | none => rfl
  | some b => cases b with | cells l => exact cellsSame_refl l | map l => exact pairsSame_refl l
@[simp] theorem stayB_some (h h' : Heap) (id : Nat) : stayB h h' (some id) = blkSame (hget h id) (hget h' id) := rfl
@[simp] theorem stayB_none (h h' : Heap) : stayB h h' none = true := rfl
@[simp] theorem footOf_ptr (id off : Nat) : footOf (.ptr id off) = some id := rfl
@[simp] theorem footOf_map (id : Nat) : footOf (.map id) = some id := rfl
@[simp] theorem footOf_pel (e : AVal) (off : Nat) : footOf (.pel e off) = none := rfl
attribute [simp] rdO ftO okT okF
/-! ### Loops -/
/-- The slots, those of S as f tells. -/
def mixAt (S : List Nat) (f : Nat → Cell) : Nat → List Cell → List Cell
  | _, [] => []
  | i, c :: r => (if S.contains i then f i else c) :: mixAt S f (i + 1) r
@[simp] theorem mixAt_nil (S : List Nat) (f : Nat → Cell) (i : Nat) : mixAt S f i [] = [] := rfl
@[simp] theorem mixAt_cons (S : List Nat) (f : Nat → Cell) (i : Nat) (c : Cell) (r : List Cell) : mixAt S f i (c :: r) = (if S.contains i then f i else c) :: mixAt S f (i + 1) r := rfl
theorem mix_self (S : List Nat) : ∀ (tm : List Cell) (i : Nat), mixAt S (fun j => getC tm (j - i)) i tm = tm := by
  have key : ∀ (r : List Cell) (i : Nat) (f : Nat → Cell), (∀ j c, r[j]? = some c → f (i + j) = c) → mixAt S f i r = r := by
    intro r
    induction r with
    | nil => intro i f _; rfl
    | cons c r ih =>
      intro i f h
      rw [mixAt_cons]
      have h0 := h 0 c rfl
      rw [Nat.add_zero] at h0
      rw [ih (i + 1) f fun j c' hj => by have := h (j + 1) c' (by simpa using hj); rw [← this]; congr 1; omega]
      split
      · rw [h0]
      · rfl
  intro tm i
  refine key tm i _ fun j c hj => ?_
  show getC tm (i + j - i) = c
  rw [Nat.add_sub_cancel_left, getC, hj]; rfl
/-- A loop whose rounds leave the heap alone: the slots S change, the measure falls, till a round leaves it. -/
theorem loop_at {K : Cfg} {ro : Md} {b : Code} {tm0 : List Cell} {nx : Nat} {hp : Heap} {o : Option (AExit × St)} (ho : X K ro (.loop b) ⟨tm0, nx, hp⟩ = o) (S : List Nat) (inv : Nat → (Nat → Cell) → Prop) (n0 : Nat) (h0 : inv n0 (getC tm0)) (done : Nat → (Nat → Cell) → Prop)
    (step : ∀ n f, inv n f → ¬ done n f → ∃ tm', X K ro b ⟨mixAt S f 0 tm0, nx, hp⟩ = some (.normal, ⟨tm', nx, hp⟩) ∧ mixAt S (getC tm') 0 tm0 = tm' ∧ ∃ n', n' < n ∧ inv n' (getC tm')) :
    ∃ n f, inv n f ∧ done n f ∧ o = XK K ro (.loop b) (X K ro b ⟨mixAt S f 0 tm0, nx, hp⟩) := by
  obtain ⟨n, tm, ⟨f, h1, rfl⟩, ⟨f', h2, h4, h3⟩, he⟩ := loop_run ho (fun _ n tm => ∃ f, inv n f ∧ tm = mixAt S f 0 tm0) n0 ⟨getC tm0, h0, (mix_self S tm0 0).symm⟩ (fun _ n tm => ∃ f, inv n f ∧ done n f ∧ tm = mixAt S f 0 tm0) (fun n tm ⟨f, hi, e⟩ => by
    subst e
    by_cases hd : done n f
    · exact .inl ⟨f, hi, hd, rfl⟩
    · obtain ⟨tm', q1, q2, n', q3, q4⟩ := step n f hi hd
      exact .inr ⟨n', tm', q3, ⟨_, q4, q2.symm⟩, q1⟩)
  rw [h3] at he
  exact ⟨n, f', h2, h4, he⟩
end Go.Proofs.YtleimfinniclgaaGreatDoor.M
/- The types of this program, as the machine reads them: by program. -/
namespace Go.Proofs.YtleimfinniclgaaGreatDoor.M
open Go.Proofs
set_option maxRecDepth 100000
@[simp] theorem sz1 : sizeT Tryz.prog 1 = 1 := by kernel_rfl
@[simp] theorem ag1 : isAggT Tryz.prog 1 = some false := by kernel_rfl
@[simp] theorem zc1 : zcells Tryz.prog 1 = some [(.nilf, false)] := by kernel_rfl
@[simp] theorem zt1 : zeroT Tryz.prog 1 = true := by kernel_rfl
@[simp] theorem sz2 : sizeT Tryz.prog 2 = 1 := by kernel_rfl
@[simp] theorem ag2 : isAggT Tryz.prog 2 = some false := by kernel_rfl
@[simp] theorem zc2 : zcells Tryz.prog 2 = some [(.int .i64 0, false)] := by kernel_rfl
@[simp] theorem zt2 : zeroT Tryz.prog 2 = true := by kernel_rfl
@[simp] theorem sz3 : sizeT Tryz.prog 3 = 1 := by kernel_rfl
@[simp] theorem ag3 : isAggT Tryz.prog 3 = some false := by kernel_rfl
@[simp] theorem zc3 : zcells Tryz.prog 3 = some [(.int .i64 0, false)] := by kernel_rfl
@[simp] theorem zt3 : zeroT Tryz.prog 3 = true := by kernel_rfl
@[simp] theorem sz4 : sizeT Tryz.prog 4 = 1 := by kernel_rfl
@[simp] theorem ag4 : isAggT Tryz.prog 4 = some false := by kernel_rfl
@[simp] theorem zc4 : zcells Tryz.prog 4 = some [(.bool false, false)] := by kernel_rfl
@[simp] theorem zt4 : zeroT Tryz.prog 4 = true := by kernel_rfl
@[simp] theorem un4 : Tryz.prog.underlying 4 = some .bool := by kernel_rfl
@[simp] theorem sz5 : sizeT Tryz.prog 5 = 1 := by kernel_rfl
@[simp] theorem ag5 : isAggT Tryz.prog 5 = some false := by kernel_rfl
@[simp] theorem zc5 : zcells Tryz.prog 5 = some [(.int .u8 0, false)] := by kernel_rfl
@[simp] theorem zt5 : zeroT Tryz.prog 5 = true := by kernel_rfl
@[simp] theorem sz6 : sizeT Tryz.prog 6 = 1 := by kernel_rfl
@[simp] theorem ag6 : isAggT Tryz.prog 6 = some false := by kernel_rfl
@[simp] theorem zc6 : zcells Tryz.prog 6 = some [(.int .u8 0, false)] := by kernel_rfl
@[simp] theorem zt6 : zeroT Tryz.prog 6 = true := by kernel_rfl
@[simp] theorem sz7 : sizeT Tryz.prog 7 = 4 := by kernel_rfl
@[simp] theorem ag7 : isAggT Tryz.prog 7 = some true := by kernel_rfl
@[simp] theorem zt7 : zeroT Tryz.prog 7 = true := by kernel_rfl
@[simp] theorem sz8 : sizeT Tryz.prog 8 = 4 := by kernel_rfl
@[simp] theorem ag8 : isAggT Tryz.prog 8 = some true := by kernel_rfl
@[simp] theorem zt8 : zeroT Tryz.prog 8 = true := by kernel_rfl
@[simp] theorem sz9 : sizeT Tryz.prog 9 = 1 := by kernel_rfl
@[simp] theorem ag9 : isAggT Tryz.prog 9 = some false := by kernel_rfl
@[simp] theorem zc9 : zcells Tryz.prog 9 = some [(.str ByteArray.empty, false)] := by kernel_rfl
@[simp] theorem zt9 : zeroT Tryz.prog 9 = true := by kernel_rfl
@[simp] theorem un9 : Tryz.prog.underlying 9 = some .string := by kernel_rfl
@[simp] theorem sz10 : sizeT Tryz.prog 10 = 1 := by kernel_rfl
@[simp] theorem ag10 : isAggT Tryz.prog 10 = some false := by kernel_rfl
@[simp] theorem zc10 : zcells Tryz.prog 10 = some [(.str ByteArray.empty, false)] := by kernel_rfl
@[simp] theorem zt10 : zeroT Tryz.prog 10 = true := by kernel_rfl
@[simp] theorem un10 : Tryz.prog.underlying 10 = some .string := by kernel_rfl
@[simp] theorem sz11 : sizeT Tryz.prog 11 = 1 := by kernel_rfl
@[simp] theorem ag11 : isAggT Tryz.prog 11 = some false := by kernel_rfl
@[simp] theorem zc11 : zcells Tryz.prog 11 = some [(.str ByteArray.empty, false)] := by kernel_rfl
@[simp] theorem zt11 : zeroT Tryz.prog 11 = true := by kernel_rfl
@[simp] theorem un11 : Tryz.prog.underlying 11 = some .string := by kernel_rfl
@[simp] theorem sz12 : sizeT Tryz.prog 12 = 1 := by kernel_rfl
@[simp] theorem ag12 : isAggT Tryz.prog 12 = some false := by kernel_rfl
@[simp] theorem zc12 : zcells Tryz.prog 12 = some [(.int .u64 0, false)] := by kernel_rfl
@[simp] theorem zt12 : zeroT Tryz.prog 12 = true := by kernel_rfl
@[simp] theorem sz13 : sizeT Tryz.prog 13 = 2 := by kernel_rfl
@[simp] theorem ag13 : isAggT Tryz.prog 13 = some true := by kernel_rfl
@[simp] theorem zt13 : zeroT Tryz.prog 13 = true := by kernel_rfl
@[simp] theorem sz14 : sizeT Tryz.prog 14 = 2 := by kernel_rfl
@[simp] theorem ag14 : isAggT Tryz.prog 14 = some true := by kernel_rfl
@[simp] theorem zt14 : zeroT Tryz.prog 14 = true := by kernel_rfl
@[simp] theorem sz15 : sizeT Tryz.prog 15 = 1 := by kernel_rfl
@[simp] theorem ag15 : isAggT Tryz.prog 15 = some false := by kernel_rfl
@[simp] theorem zc15 : zcells Tryz.prog 15 = some [(.nilp, false)] := by kernel_rfl
@[simp] theorem zt15 : zeroT Tryz.prog 15 = true := by kernel_rfl
@[simp] theorem sz16 : sizeT Tryz.prog 16 = 1 := by kernel_rfl
@[simp] theorem ag16 : isAggT Tryz.prog 16 = some false := by kernel_rfl
@[simp] theorem zc16 : zcells Tryz.prog 16 = some [(.nilp, false)] := by kernel_rfl
@[simp] theorem zt16 : zeroT Tryz.prog 16 = true := by kernel_rfl
@[simp] theorem sz17 : sizeT Tryz.prog 17 = 1 := by kernel_rfl
@[simp] theorem ag17 : isAggT Tryz.prog 17 = some false := by kernel_rfl
@[simp] theorem zc17 : zcells Tryz.prog 17 = some [(.nilp, false)] := by kernel_rfl
@[simp] theorem zt17 : zeroT Tryz.prog 17 = true := by kernel_rfl
@[simp] theorem sz18 : sizeT Tryz.prog 18 = 1 := by kernel_rfl
@[simp] theorem ag18 : isAggT Tryz.prog 18 = some true := by kernel_rfl
@[simp] theorem zc18 : zcells Tryz.prog 18 = some [(.nilp, false)] := by kernel_rfl
@[simp] theorem zt18 : zeroT Tryz.prog 18 = true := by kernel_rfl
@[simp] theorem fa18_0 (x : AVal) : afield Tryz.prog 18 x 0 = ashift 0 x := by kernel_rfl
@[simp] theorem fv18_0 (cs : List AVal) : afieldv Tryz.prog 18 (.agg cs) 0 = cs[0]? := by kernel_rfl
@[simp] theorem bd18 (nl : Bool) (ps : List (Nat × AVal)) : abuild Tryz.prog nl 18 ps = afillL [(0, 1)] (if nl then [.nilp] else [.nilp]) ps := by cases nl <;> kernel_rfl
@[simp] theorem sz19 : sizeT Tryz.prog 19 = 1 := by kernel_rfl
@[simp] theorem ag19 : isAggT Tryz.prog 19 = some true := by kernel_rfl
@[simp] theorem zc19 : zcells Tryz.prog 19 = some [(.nilp, false)] := by kernel_rfl
@[simp] theorem zt19 : zeroT Tryz.prog 19 = true := by kernel_rfl
@[simp] theorem fa19_0 (x : AVal) : afield Tryz.prog 19 x 0 = ashift 0 x := by kernel_rfl
@[simp] theorem fv19_0 (cs : List AVal) : afieldv Tryz.prog 19 (.agg cs) 0 = cs[0]? := by kernel_rfl
@[simp] theorem bd19 (nl : Bool) (ps : List (Nat × AVal)) : abuild Tryz.prog nl 19 ps = afillL [(0, 1)] (if nl then [.nilp] else [.nilp]) ps := by cases nl <;> kernel_rfl
@[simp] theorem sz21 : sizeT Tryz.prog 21 = 1 := by kernel_rfl
@[simp] theorem ag21 : isAggT Tryz.prog 21 = some false := by kernel_rfl
@[simp] theorem zc21 : zcells Tryz.prog 21 = some [(.int .i32 0, false)] := by kernel_rfl
@[simp] theorem zt21 : zeroT Tryz.prog 21 = true := by kernel_rfl
@[simp] theorem sz22 : sizeT Tryz.prog 22 = 1 := by kernel_rfl
@[simp] theorem ag22 : isAggT Tryz.prog 22 = some false := by kernel_rfl
@[simp] theorem zc22 : zcells Tryz.prog 22 = some [(.lst [], true)] := by kernel_rfl
@[simp] theorem zt22 : zeroT Tryz.prog 22 = true := by kernel_rfl
@[simp] theorem un22 : Tryz.prog.underlying 22 = some (.slice 3) := by kernel_rfl
@[simp] theorem st22 : slT Tryz.prog 22 = true := by kernel_rfl
@[simp] theorem ai22 : apInfo Tryz.prog 22 = some (3, 8, 1, false) := by kernel_rfl
@[simp] theorem sz23 : sizeT Tryz.prog 23 = 1 := by kernel_rfl
@[simp] theorem ag23 : isAggT Tryz.prog 23 = some false := by kernel_rfl
@[simp] theorem zc23 : zcells Tryz.prog 23 = some [(.nilp, false)] := by kernel_rfl
@[simp] theorem zt23 : zeroT Tryz.prog 23 = true := by kernel_rfl
@[simp] theorem sz24 : sizeT Tryz.prog 24 = 2 := by kernel_rfl
@[simp] theorem ag24 : isAggT Tryz.prog 24 = some true := by kernel_rfl
@[simp] theorem zc24 : zcells Tryz.prog 24 = some [(.lst [], true), (.int .i64 0, false)] := by kernel_rfl
@[simp] theorem zt24 : zeroT Tryz.prog 24 = true := by kernel_rfl
@[simp] theorem fa24_0 (x : AVal) : afield Tryz.prog 24 x 0 = ashift 0 x := by kernel_rfl
@[simp] theorem fv24_0 (cs : List AVal) : afieldv Tryz.prog 24 (.agg cs) 0 = cs[0]? := by kernel_rfl
@[simp] theorem fa24_1 (x : AVal) : afield Tryz.prog 24 x 1 = ashift 1 x := by kernel_rfl
@[simp] theorem fv24_1 (cs : List AVal) : afieldv Tryz.prog 24 (.agg cs) 1 = cs[1]? := by kernel_rfl
@[simp] theorem bd24 (nl : Bool) (ps : List (Nat × AVal)) : abuild Tryz.prog nl 24 ps = afillL [(0, 1), (1, 1)] (if nl then [.nils, .int .i64 0] else [.lst [], .int .i64 0]) ps := by cases nl <;> kernel_rfl
@[simp] theorem sz25 : sizeT Tryz.prog 25 = 2 := by kernel_rfl
@[simp] theorem ag25 : isAggT Tryz.prog 25 = some true := by kernel_rfl
@[simp] theorem zc25 : zcells Tryz.prog 25 = some [(.lst [], true), (.int .i64 0, false)] := by kernel_rfl
@[simp] theorem zt25 : zeroT Tryz.prog 25 = true := by kernel_rfl
@[simp] theorem fa25_0 (x : AVal) : afield Tryz.prog 25 x 0 = ashift 0 x := by kernel_rfl
@[simp] theorem fv25_0 (cs : List AVal) : afieldv Tryz.prog 25 (.agg cs) 0 = cs[0]? := by kernel_rfl
@[simp] theorem fa25_1 (x : AVal) : afield Tryz.prog 25 x 1 = ashift 1 x := by kernel_rfl
@[simp] theorem fv25_1 (cs : List AVal) : afieldv Tryz.prog 25 (.agg cs) 1 = cs[1]? := by kernel_rfl
@[simp] theorem bd25 (nl : Bool) (ps : List (Nat × AVal)) : abuild Tryz.prog nl 25 ps = afillL [(0, 1), (1, 1)] (if nl then [.nils, .int .i64 0] else [.lst [], .int .i64 0]) ps := by cases nl <;> kernel_rfl
@[simp] theorem sz26 : sizeT Tryz.prog 26 = 1 := by kernel_rfl
@[simp] theorem ag26 : isAggT Tryz.prog 26 = some false := by kernel_rfl
@[simp] theorem zc26 : zcells Tryz.prog 26 = some [(.lst [], true)] := by kernel_rfl
@[simp] theorem zt26 : zeroT Tryz.prog 26 = true := by kernel_rfl
@[simp] theorem un26 : Tryz.prog.underlying 26 = some (.slice 28) := by kernel_rfl
@[simp] theorem st26 : slT Tryz.prog 26 = true := by kernel_rfl
@[simp] theorem ai26 : apInfo Tryz.prog 26 = some (28, 56, 4, true) := by kernel_rfl
@[simp] theorem sz27 : sizeT Tryz.prog 27 = 4 := by kernel_rfl
@[simp] theorem ag27 : isAggT Tryz.prog 27 = some true := by kernel_rfl
@[simp] theorem zc27 : zcells Tryz.prog 27 = some [(.int .i64 0, false), (.int .i64 0, false), (.str ByteArray.empty, false), (.lst [], true)] := by kernel_rfl
@[simp] theorem zt27 : zeroT Tryz.prog 27 = true := by kernel_rfl
@[simp] theorem fa27_0 (x : AVal) : afield Tryz.prog 27 x 0 = ashift 0 x := by kernel_rfl
@[simp] theorem fv27_0 (cs : List AVal) : afieldv Tryz.prog 27 (.agg cs) 0 = cs[0]? := by kernel_rfl
@[simp] theorem fa27_1 (x : AVal) : afield Tryz.prog 27 x 1 = ashift 1 x := by kernel_rfl
@[simp] theorem fv27_1 (cs : List AVal) : afieldv Tryz.prog 27 (.agg cs) 1 = cs[1]? := by kernel_rfl
@[simp] theorem fa27_2 (x : AVal) : afield Tryz.prog 27 x 2 = ashift 2 x := by kernel_rfl
@[simp] theorem fv27_2 (cs : List AVal) : afieldv Tryz.prog 27 (.agg cs) 2 = cs[2]? := by kernel_rfl
@[simp] theorem fa27_3 (x : AVal) : afield Tryz.prog 27 x 3 = ashift 3 x := by kernel_rfl
@[simp] theorem fv27_3 (cs : List AVal) : afieldv Tryz.prog 27 (.agg cs) 3 = cs[3]? := by kernel_rfl
@[simp] theorem bd27 (nl : Bool) (ps : List (Nat × AVal)) : abuild Tryz.prog nl 27 ps = afillL [(0, 1), (1, 1), (2, 1), (3, 1)] (if nl then [.int .i64 0, .int .i64 0, .str ByteArray.empty, .nils] else [.int .i64 0, .int .i64 0, .str ByteArray.empty, .lst []]) ps := by cases nl <;> kernel_rfl
@[simp] theorem sz28 : sizeT Tryz.prog 28 = 4 := by kernel_rfl
@[simp] theorem ag28 : isAggT Tryz.prog 28 = some true := by kernel_rfl
@[simp] theorem zc28 : zcells Tryz.prog 28 = some [(.int .i64 0, false), (.int .i64 0, false), (.str ByteArray.empty, false), (.lst [], true)] := by kernel_rfl
@[simp] theorem zt28 : zeroT Tryz.prog 28 = true := by kernel_rfl
@[simp] theorem fa28_0 (x : AVal) : afield Tryz.prog 28 x 0 = ashift 0 x := by kernel_rfl
@[simp] theorem fv28_0 (cs : List AVal) : afieldv Tryz.prog 28 (.agg cs) 0 = cs[0]? := by kernel_rfl
@[simp] theorem fa28_1 (x : AVal) : afield Tryz.prog 28 x 1 = ashift 1 x := by kernel_rfl
@[simp] theorem fv28_1 (cs : List AVal) : afieldv Tryz.prog 28 (.agg cs) 1 = cs[1]? := by kernel_rfl
@[simp] theorem fa28_2 (x : AVal) : afield Tryz.prog 28 x 2 = ashift 2 x := by kernel_rfl
@[simp] theorem fv28_2 (cs : List AVal) : afieldv Tryz.prog 28 (.agg cs) 2 = cs[2]? := by kernel_rfl
@[simp] theorem fa28_3 (x : AVal) : afield Tryz.prog 28 x 3 = ashift 3 x := by kernel_rfl
@[simp] theorem fv28_3 (cs : List AVal) : afieldv Tryz.prog 28 (.agg cs) 3 = cs[3]? := by kernel_rfl
@[simp] theorem bd28 (nl : Bool) (ps : List (Nat × AVal)) : abuild Tryz.prog nl 28 ps = afillL [(0, 1), (1, 1), (2, 1), (3, 1)] (if nl then [.int .i64 0, .int .i64 0, .str ByteArray.empty, .nils] else [.int .i64 0, .int .i64 0, .str ByteArray.empty, .lst []]) ps := by cases nl <;> kernel_rfl
@[simp] theorem sz29 : sizeT Tryz.prog 29 = 1 := by kernel_rfl
@[simp] theorem ag29 : isAggT Tryz.prog 29 = some false := by kernel_rfl
@[simp] theorem zc29 : zcells Tryz.prog 29 = some [(.nilf, false)] := by kernel_rfl
@[simp] theorem zt29 : zeroT Tryz.prog 29 = true := by kernel_rfl
@[simp] theorem sz30 : sizeT Tryz.prog 30 = 1 := by kernel_rfl
@[simp] theorem ag30 : isAggT Tryz.prog 30 = some false := by kernel_rfl
@[simp] theorem zc30 : zcells Tryz.prog 30 = some [(.lst [], true)] := by kernel_rfl
@[simp] theorem zt30 : zeroT Tryz.prog 30 = true := by kernel_rfl
@[simp] theorem un30 : Tryz.prog.underlying 30 = some (.slice 110) := by kernel_rfl
@[simp] theorem st30 : slT Tryz.prog 30 = true := by kernel_rfl
@[simp] theorem ai30 : apInfo Tryz.prog 30 = some (110, 24, 2, true) := by kernel_rfl
@[simp] theorem sz31 : sizeT Tryz.prog 31 = 1 := by kernel_rfl
@[simp] theorem ag31 : isAggT Tryz.prog 31 = some false := by kernel_rfl
@[simp] theorem zc31 : zcells Tryz.prog 31 = some [(.nilf, false)] := by kernel_rfl
@[simp] theorem zt31 : zeroT Tryz.prog 31 = true := by kernel_rfl
@[simp] theorem sz32 : sizeT Tryz.prog 32 = 1 := by kernel_rfl
@[simp] theorem ag32 : isAggT Tryz.prog 32 = some false := by kernel_rfl
@[simp] theorem zc32 : zcells Tryz.prog 32 = some [(.int .i64 0, false)] := by kernel_rfl
@[simp] theorem zt32 : zeroT Tryz.prog 32 = true := by kernel_rfl
@[simp] theorem sz33 : sizeT Tryz.prog 33 = 1 := by kernel_rfl
@[simp] theorem ag33 : isAggT Tryz.prog 33 = some false := by kernel_rfl
@[simp] theorem zc33 : zcells Tryz.prog 33 = some [(.nilf, false)] := by kernel_rfl
@[simp] theorem zt33 : zeroT Tryz.prog 33 = true := by kernel_rfl
@[simp] theorem sz34 : sizeT Tryz.prog 34 = 1 := by kernel_rfl
@[simp] theorem ag34 : isAggT Tryz.prog 34 = some false := by kernel_rfl
@[simp] theorem zc34 : zcells Tryz.prog 34 = some [(.nilf, false)] := by kernel_rfl
@[simp] theorem zt34 : zeroT Tryz.prog 34 = true := by kernel_rfl
@[simp] theorem sz36 : sizeT Tryz.prog 36 = 1 := by kernel_rfl
@[simp] theorem ag36 : isAggT Tryz.prog 36 = some false := by kernel_rfl
@[simp] theorem zc36 : zcells Tryz.prog 36 = some [(.nilf, false)] := by kernel_rfl
@[simp] theorem zt36 : zeroT Tryz.prog 36 = true := by kernel_rfl
@[simp] theorem sz37 : sizeT Tryz.prog 37 = 1 := by kernel_rfl
@[simp] theorem ag37 : isAggT Tryz.prog 37 = some false := by kernel_rfl
@[simp] theorem zc37 : zcells Tryz.prog 37 = some [(.lst [], true)] := by kernel_rfl
@[simp] theorem zt37 : zeroT Tryz.prog 37 = true := by kernel_rfl
@[simp] theorem un37 : Tryz.prog.underlying 37 = some (.slice 9) := by kernel_rfl
@[simp] theorem st37 : slT Tryz.prog 37 = true := by kernel_rfl
@[simp] theorem ai37 : apInfo Tryz.prog 37 = some (9, 16, 1, false) := by kernel_rfl
@[simp] theorem sz39 : sizeT Tryz.prog 39 = 1 := by kernel_rfl
@[simp] theorem ag39 : isAggT Tryz.prog 39 = some false := by kernel_rfl
@[simp] theorem zc39 : zcells Tryz.prog 39 = some [(.nilf, false)] := by kernel_rfl
@[simp] theorem zt39 : zeroT Tryz.prog 39 = true := by kernel_rfl
@[simp] theorem sz40 : sizeT Tryz.prog 40 = 1 := by kernel_rfl
@[simp] theorem ag40 : isAggT Tryz.prog 40 = some false := by kernel_rfl
@[simp] theorem zc40 : zcells Tryz.prog 40 = some [(.nilf, false)] := by kernel_rfl
@[simp] theorem zt40 : zeroT Tryz.prog 40 = true := by kernel_rfl
@[simp] theorem sz41 : sizeT Tryz.prog 41 = 1 := by kernel_rfl
@[simp] theorem ag41 : isAggT Tryz.prog 41 = some false := by kernel_rfl
@[simp] theorem zc41 : zcells Tryz.prog 41 = some [(.nilf, false)] := by kernel_rfl
@[simp] theorem zt41 : zeroT Tryz.prog 41 = true := by kernel_rfl
@[simp] theorem sz42 : sizeT Tryz.prog 42 = 1 := by kernel_rfl
@[simp] theorem ag42 : isAggT Tryz.prog 42 = some false := by kernel_rfl
@[simp] theorem zc42 : zcells Tryz.prog 42 = some [(.nilf, false)] := by kernel_rfl
@[simp] theorem zt42 : zeroT Tryz.prog 42 = true := by kernel_rfl
@[simp] theorem sz43 : sizeT Tryz.prog 43 = 1 := by kernel_rfl
@[simp] theorem ag43 : isAggT Tryz.prog 43 = some false := by kernel_rfl
@[simp] theorem zc43 : zcells Tryz.prog 43 = some [(.nilm, false)] := by kernel_rfl
@[simp] theorem zt43 : zeroT Tryz.prog 43 = true := by kernel_rfl
@[simp] theorem un43 : Tryz.prog.underlying 43 = some (.map 9 3) := by kernel_rfl
@[simp] theorem sz44 : sizeT Tryz.prog 44 = 1 := by kernel_rfl
@[simp] theorem ag44 : isAggT Tryz.prog 44 = some false := by kernel_rfl
@[simp] theorem zc44 : zcells Tryz.prog 44 = some [(.nilf, false)] := by kernel_rfl
@[simp] theorem zt44 : zeroT Tryz.prog 44 = true := by kernel_rfl
@[simp] theorem sz45 : sizeT Tryz.prog 45 = 1 := by kernel_rfl
@[simp] theorem ag45 : isAggT Tryz.prog 45 = some false := by kernel_rfl
@[simp] theorem zc45 : zcells Tryz.prog 45 = some [(.nilf, false)] := by kernel_rfl
@[simp] theorem zt45 : zeroT Tryz.prog 45 = true := by kernel_rfl
@[simp] theorem sz46 : sizeT Tryz.prog 46 = 1 := by kernel_rfl
@[simp] theorem ag46 : isAggT Tryz.prog 46 = some false := by kernel_rfl
@[simp] theorem zc46 : zcells Tryz.prog 46 = some [(.nilf, false)] := by kernel_rfl
@[simp] theorem zt46 : zeroT Tryz.prog 46 = true := by kernel_rfl
@[simp] theorem sz47 : sizeT Tryz.prog 47 = 1 := by kernel_rfl
@[simp] theorem ag47 : isAggT Tryz.prog 47 = some false := by kernel_rfl
@[simp] theorem zc47 : zcells Tryz.prog 47 = some [(.nilf, false)] := by kernel_rfl
@[simp] theorem zt47 : zeroT Tryz.prog 47 = true := by kernel_rfl
@[simp] theorem sz48 : sizeT Tryz.prog 48 = 1 := by kernel_rfl
@[simp] theorem ag48 : isAggT Tryz.prog 48 = some false := by kernel_rfl
@[simp] theorem zc48 : zcells Tryz.prog 48 = some [(.nilf, false)] := by kernel_rfl
@[simp] theorem zt48 : zeroT Tryz.prog 48 = true := by kernel_rfl
@[simp] theorem sz49 : sizeT Tryz.prog 49 = 1 := by kernel_rfl
@[simp] theorem ag49 : isAggT Tryz.prog 49 = some false := by kernel_rfl
@[simp] theorem zc49 : zcells Tryz.prog 49 = some [(.nilf, false)] := by kernel_rfl
@[simp] theorem zt49 : zeroT Tryz.prog 49 = true := by kernel_rfl
@[simp] theorem sz50 : sizeT Tryz.prog 50 = 1 := by kernel_rfl
@[simp] theorem ag50 : isAggT Tryz.prog 50 = some false := by kernel_rfl
@[simp] theorem zc50 : zcells Tryz.prog 50 = some [(.lst [], true)] := by kernel_rfl
@[simp] theorem zt50 : zeroT Tryz.prog 50 = true := by kernel_rfl
@[simp] theorem un50 : Tryz.prog.underlying 50 = some (.slice 64) := by kernel_rfl
@[simp] theorem st50 : slT Tryz.prog 50 = true := by kernel_rfl
@[simp] theorem ai50 : apInfo Tryz.prog 50 = some (64, 32, 3, true) := by kernel_rfl
@[simp] theorem sz51 : sizeT Tryz.prog 51 = 1 := by kernel_rfl
@[simp] theorem ag51 : isAggT Tryz.prog 51 = some false := by kernel_rfl
@[simp] theorem zc51 : zcells Tryz.prog 51 = some [(.nilf, false)] := by kernel_rfl
@[simp] theorem zt51 : zeroT Tryz.prog 51 = true := by kernel_rfl
@[simp] theorem sz52 : sizeT Tryz.prog 52 = 1 := by kernel_rfl
@[simp] theorem ag52 : isAggT Tryz.prog 52 = some false := by kernel_rfl
@[simp] theorem zc52 : zcells Tryz.prog 52 = some [(.nilf, false)] := by kernel_rfl
@[simp] theorem zt52 : zeroT Tryz.prog 52 = true := by kernel_rfl
@[simp] theorem sz54 : sizeT Tryz.prog 54 = 1 := by kernel_rfl
@[simp] theorem ag54 : isAggT Tryz.prog 54 = some false := by kernel_rfl
@[simp] theorem zc54 : zcells Tryz.prog 54 = some [(.nilf, false)] := by kernel_rfl
@[simp] theorem zt54 : zeroT Tryz.prog 54 = true := by kernel_rfl
@[simp] theorem sz56 : sizeT Tryz.prog 56 = 1 := by kernel_rfl
@[simp] theorem ag56 : isAggT Tryz.prog 56 = some false := by kernel_rfl
@[simp] theorem zc56 : zcells Tryz.prog 56 = some [(.nilf, false)] := by kernel_rfl
@[simp] theorem zt56 : zeroT Tryz.prog 56 = true := by kernel_rfl
@[simp] theorem sz58 : sizeT Tryz.prog 58 = 1 := by kernel_rfl
@[simp] theorem ag58 : isAggT Tryz.prog 58 = some false := by kernel_rfl
@[simp] theorem zc58 : zcells Tryz.prog 58 = some [(.nilf, false)] := by kernel_rfl
@[simp] theorem zt58 : zeroT Tryz.prog 58 = true := by kernel_rfl
@[simp] theorem sz59 : sizeT Tryz.prog 59 = 1 := by kernel_rfl
@[simp] theorem ag59 : isAggT Tryz.prog 59 = some false := by kernel_rfl
@[simp] theorem zc59 : zcells Tryz.prog 59 = some [(.nilf, false)] := by kernel_rfl
@[simp] theorem zt59 : zeroT Tryz.prog 59 = true := by kernel_rfl
@[simp] theorem sz61 : sizeT Tryz.prog 61 = 1 := by kernel_rfl
@[simp] theorem ag61 : isAggT Tryz.prog 61 = some false := by kernel_rfl
@[simp] theorem zc61 : zcells Tryz.prog 61 = some [(.nilf, false)] := by kernel_rfl
@[simp] theorem zt61 : zeroT Tryz.prog 61 = true := by kernel_rfl
@[simp] theorem sz62 : sizeT Tryz.prog 62 = 1 := by kernel_rfl
@[simp] theorem ag62 : isAggT Tryz.prog 62 = some false := by kernel_rfl
@[simp] theorem zc62 : zcells Tryz.prog 62 = some [(.nilf, false)] := by kernel_rfl
@[simp] theorem zt62 : zeroT Tryz.prog 62 = true := by kernel_rfl
@[simp] theorem sz63 : sizeT Tryz.prog 63 = 3 := by kernel_rfl
@[simp] theorem ag63 : isAggT Tryz.prog 63 = some true := by kernel_rfl
@[simp] theorem zc63 : zcells Tryz.prog 63 = some [(.int .i64 0, false), (.int .i64 0, false), (.str ByteArray.empty, false)] := by kernel_rfl
@[simp] theorem zt63 : zeroT Tryz.prog 63 = true := by kernel_rfl
@[simp] theorem fa63_0 (x : AVal) : afield Tryz.prog 63 x 0 = ashift 0 x := by kernel_rfl
@[simp] theorem fv63_0 (cs : List AVal) : afieldv Tryz.prog 63 (.agg cs) 0 = cs[0]? := by kernel_rfl
@[simp] theorem fa63_1 (x : AVal) : afield Tryz.prog 63 x 1 = ashift 1 x := by kernel_rfl
@[simp] theorem fv63_1 (cs : List AVal) : afieldv Tryz.prog 63 (.agg cs) 1 = cs[1]? := by kernel_rfl
@[simp] theorem fa63_2 (x : AVal) : afield Tryz.prog 63 x 2 = ashift 2 x := by kernel_rfl
@[simp] theorem fv63_2 (cs : List AVal) : afieldv Tryz.prog 63 (.agg cs) 2 = cs[2]? := by kernel_rfl
@[simp] theorem bd63 (nl : Bool) (ps : List (Nat × AVal)) : abuild Tryz.prog nl 63 ps = afillL [(0, 1), (1, 1), (2, 1)] (if nl then [.int .i64 0, .int .i64 0, .str ByteArray.empty] else [.int .i64 0, .int .i64 0, .str ByteArray.empty]) ps := by cases nl <;> kernel_rfl
@[simp] theorem sz64 : sizeT Tryz.prog 64 = 3 := by kernel_rfl
@[simp] theorem ag64 : isAggT Tryz.prog 64 = some true := by kernel_rfl
@[simp] theorem zc64 : zcells Tryz.prog 64 = some [(.int .i64 0, false), (.int .i64 0, false), (.str ByteArray.empty, false)] := by kernel_rfl
@[simp] theorem zt64 : zeroT Tryz.prog 64 = true := by kernel_rfl
@[simp] theorem fa64_0 (x : AVal) : afield Tryz.prog 64 x 0 = ashift 0 x := by kernel_rfl
@[simp] theorem fv64_0 (cs : List AVal) : afieldv Tryz.prog 64 (.agg cs) 0 = cs[0]? := by kernel_rfl
@[simp] theorem fa64_1 (x : AVal) : afield Tryz.prog 64 x 1 = ashift 1 x := by kernel_rfl
@[simp] theorem fv64_1 (cs : List AVal) : afieldv Tryz.prog 64 (.agg cs) 1 = cs[1]? := by kernel_rfl
@[simp] theorem fa64_2 (x : AVal) : afield Tryz.prog 64 x 2 = ashift 2 x := by kernel_rfl
@[simp] theorem fv64_2 (cs : List AVal) : afieldv Tryz.prog 64 (.agg cs) 2 = cs[2]? := by kernel_rfl
@[simp] theorem bd64 (nl : Bool) (ps : List (Nat × AVal)) : abuild Tryz.prog nl 64 ps = afillL [(0, 1), (1, 1), (2, 1)] (if nl then [.int .i64 0, .int .i64 0, .str ByteArray.empty] else [.int .i64 0, .int .i64 0, .str ByteArray.empty]) ps := by cases nl <;> kernel_rfl
@[simp] theorem sz65 : sizeT Tryz.prog 65 = 1 := by kernel_rfl
@[simp] theorem ag65 : isAggT Tryz.prog 65 = some false := by kernel_rfl
@[simp] theorem zc65 : zcells Tryz.prog 65 = some [(.nilf, false)] := by kernel_rfl
@[simp] theorem zt65 : zeroT Tryz.prog 65 = true := by kernel_rfl
@[simp] theorem sz66 : sizeT Tryz.prog 66 = 1 := by kernel_rfl
@[simp] theorem ag66 : isAggT Tryz.prog 66 = some false := by kernel_rfl
@[simp] theorem zc66 : zcells Tryz.prog 66 = some [(.nilf, false)] := by kernel_rfl
@[simp] theorem zt66 : zeroT Tryz.prog 66 = true := by kernel_rfl
@[simp] theorem sz67 : sizeT Tryz.prog 67 = 1 := by kernel_rfl
@[simp] theorem ag67 : isAggT Tryz.prog 67 = some false := by kernel_rfl
@[simp] theorem zc67 : zcells Tryz.prog 67 = some [(.nilf, false)] := by kernel_rfl
@[simp] theorem zt67 : zeroT Tryz.prog 67 = true := by kernel_rfl
@[simp] theorem sz68 : sizeT Tryz.prog 68 = 1 := by kernel_rfl
@[simp] theorem ag68 : isAggT Tryz.prog 68 = some false := by kernel_rfl
@[simp] theorem zc68 : zcells Tryz.prog 68 = some [(.nilf, false)] := by kernel_rfl
@[simp] theorem zt68 : zeroT Tryz.prog 68 = true := by kernel_rfl
@[simp] theorem sz69 : sizeT Tryz.prog 69 = 1 := by kernel_rfl
@[simp] theorem ag69 : isAggT Tryz.prog 69 = some false := by kernel_rfl
@[simp] theorem zc69 : zcells Tryz.prog 69 = some [(.nilf, false)] := by kernel_rfl
@[simp] theorem zt69 : zeroT Tryz.prog 69 = true := by kernel_rfl
@[simp] theorem sz71 : sizeT Tryz.prog 71 = 1 := by kernel_rfl
@[simp] theorem ag71 : isAggT Tryz.prog 71 = some false := by kernel_rfl
@[simp] theorem zc71 : zcells Tryz.prog 71 = some [(.nilf, false)] := by kernel_rfl
@[simp] theorem zt71 : zeroT Tryz.prog 71 = true := by kernel_rfl
@[simp] theorem sz72 : sizeT Tryz.prog 72 = 1 := by kernel_rfl
@[simp] theorem ag72 : isAggT Tryz.prog 72 = some false := by kernel_rfl
@[simp] theorem zc72 : zcells Tryz.prog 72 = some [(.nilf, false)] := by kernel_rfl
@[simp] theorem zt72 : zeroT Tryz.prog 72 = true := by kernel_rfl
@[simp] theorem sz73 : sizeT Tryz.prog 73 = 1 := by kernel_rfl
@[simp] theorem ag73 : isAggT Tryz.prog 73 = some false := by kernel_rfl
@[simp] theorem zc73 : zcells Tryz.prog 73 = some [(.nilf, false)] := by kernel_rfl
@[simp] theorem zt73 : zeroT Tryz.prog 73 = true := by kernel_rfl
@[simp] theorem sz75 : sizeT Tryz.prog 75 = 1 := by kernel_rfl
@[simp] theorem ag75 : isAggT Tryz.prog 75 = some false := by kernel_rfl
@[simp] theorem zc75 : zcells Tryz.prog 75 = some [(.nilf, false)] := by kernel_rfl
@[simp] theorem zt75 : zeroT Tryz.prog 75 = true := by kernel_rfl
@[simp] theorem sz76 : sizeT Tryz.prog 76 = 1 := by kernel_rfl
@[simp] theorem ag76 : isAggT Tryz.prog 76 = some false := by kernel_rfl
@[simp] theorem zc76 : zcells Tryz.prog 76 = some [(.nilf, false)] := by kernel_rfl
@[simp] theorem zt76 : zeroT Tryz.prog 76 = true := by kernel_rfl
@[simp] theorem sz77 : sizeT Tryz.prog 77 = 1 := by kernel_rfl
@[simp] theorem ag77 : isAggT Tryz.prog 77 = some false := by kernel_rfl
@[simp] theorem zc77 : zcells Tryz.prog 77 = some [(.nilf, false)] := by kernel_rfl
@[simp] theorem zt77 : zeroT Tryz.prog 77 = true := by kernel_rfl
@[simp] theorem sz79 : sizeT Tryz.prog 79 = 1 := by kernel_rfl
@[simp] theorem ag79 : isAggT Tryz.prog 79 = some false := by kernel_rfl
@[simp] theorem zc79 : zcells Tryz.prog 79 = some [(.nilf, false)] := by kernel_rfl
@[simp] theorem zt79 : zeroT Tryz.prog 79 = true := by kernel_rfl
@[simp] theorem sz80 : sizeT Tryz.prog 80 = 1 := by kernel_rfl
@[simp] theorem ag80 : isAggT Tryz.prog 80 = some false := by kernel_rfl
@[simp] theorem zc80 : zcells Tryz.prog 80 = some [(.lst [], true)] := by kernel_rfl
@[simp] theorem zt80 : zeroT Tryz.prog 80 = true := by kernel_rfl
@[simp] theorem un80 : Tryz.prog.underlying 80 = some (.slice 164) := by kernel_rfl
@[simp] theorem st80 : slT Tryz.prog 80 = true := by kernel_rfl
@[simp] theorem ai80 : apInfo Tryz.prog 80 = some (164, 64, 3, true) := by kernel_rfl
@[simp] theorem sz81 : sizeT Tryz.prog 81 = 1 := by kernel_rfl
@[simp] theorem ag81 : isAggT Tryz.prog 81 = some false := by kernel_rfl
@[simp] theorem zc81 : zcells Tryz.prog 81 = some [(.lst [], true)] := by kernel_rfl
@[simp] theorem zt81 : zeroT Tryz.prog 81 = true := by kernel_rfl
@[simp] theorem un81 : Tryz.prog.underlying 81 = some (.slice 176) := by kernel_rfl
@[simp] theorem st81 : slT Tryz.prog 81 = true := by kernel_rfl
@[simp] theorem ai81 : apInfo Tryz.prog 81 = some (176, 216, 13, true) := by kernel_rfl
@[simp] theorem sz82 : sizeT Tryz.prog 82 = 2 := by kernel_rfl
@[simp] theorem ag82 : isAggT Tryz.prog 82 = some true := by kernel_rfl
@[simp] theorem zc82 : zcells Tryz.prog 82 = some [(.lst [], true), (.lst [], true)] := by kernel_rfl
@[simp] theorem zt82 : zeroT Tryz.prog 82 = true := by kernel_rfl
@[simp] theorem fa82_0 (x : AVal) : afield Tryz.prog 82 x 0 = ashift 0 x := by kernel_rfl
@[simp] theorem fv82_0 (cs : List AVal) : afieldv Tryz.prog 82 (.agg cs) 0 = cs[0]? := by kernel_rfl
@[simp] theorem fa82_1 (x : AVal) : afield Tryz.prog 82 x 1 = ashift 1 x := by kernel_rfl
@[simp] theorem fv82_1 (cs : List AVal) : afieldv Tryz.prog 82 (.agg cs) 1 = cs[1]? := by kernel_rfl
@[simp] theorem bd82 (nl : Bool) (ps : List (Nat × AVal)) : abuild Tryz.prog nl 82 ps = afillL [(0, 1), (1, 1)] (if nl then [.nils, .nils] else [.lst [], .lst []]) ps := by cases nl <;> kernel_rfl
@[simp] theorem sz83 : sizeT Tryz.prog 83 = 2 := by kernel_rfl
@[simp] theorem ag83 : isAggT Tryz.prog 83 = some true := by kernel_rfl
@[simp] theorem zc83 : zcells Tryz.prog 83 = some [(.lst [], true), (.lst [], true)] := by kernel_rfl
@[simp] theorem zt83 : zeroT Tryz.prog 83 = true := by kernel_rfl
@[simp] theorem fa83_0 (x : AVal) : afield Tryz.prog 83 x 0 = ashift 0 x := by kernel_rfl
@[simp] theorem fv83_0 (cs : List AVal) : afieldv Tryz.prog 83 (.agg cs) 0 = cs[0]? := by kernel_rfl
@[simp] theorem fa83_1 (x : AVal) : afield Tryz.prog 83 x 1 = ashift 1 x := by kernel_rfl
@[simp] theorem fv83_1 (cs : List AVal) : afieldv Tryz.prog 83 (.agg cs) 1 = cs[1]? := by kernel_rfl
@[simp] theorem bd83 (nl : Bool) (ps : List (Nat × AVal)) : abuild Tryz.prog nl 83 ps = afillL [(0, 1), (1, 1)] (if nl then [.nils, .nils] else [.lst [], .lst []]) ps := by cases nl <;> kernel_rfl
@[simp] theorem sz84 : sizeT Tryz.prog 84 = 1 := by kernel_rfl
@[simp] theorem ag84 : isAggT Tryz.prog 84 = some false := by kernel_rfl
@[simp] theorem zc84 : zcells Tryz.prog 84 = some [(.nilf, false)] := by kernel_rfl
@[simp] theorem zt84 : zeroT Tryz.prog 84 = true := by kernel_rfl
@[simp] theorem sz85 : sizeT Tryz.prog 85 = 1 := by kernel_rfl
@[simp] theorem ag85 : isAggT Tryz.prog 85 = some false := by kernel_rfl
@[simp] theorem zc85 : zcells Tryz.prog 85 = some [(.nilf, false)] := by kernel_rfl
@[simp] theorem zt85 : zeroT Tryz.prog 85 = true := by kernel_rfl
@[simp] theorem sz86 : sizeT Tryz.prog 86 = 1 := by kernel_rfl
@[simp] theorem ag86 : isAggT Tryz.prog 86 = some false := by kernel_rfl
@[simp] theorem zc86 : zcells Tryz.prog 86 = some [(.nilf, false)] := by kernel_rfl
@[simp] theorem zt86 : zeroT Tryz.prog 86 = true := by kernel_rfl
@[simp] theorem sz87 : sizeT Tryz.prog 87 = 1 := by kernel_rfl
@[simp] theorem ag87 : isAggT Tryz.prog 87 = some false := by kernel_rfl
@[simp] theorem zc87 : zcells Tryz.prog 87 = some [(.nilf, false)] := by kernel_rfl
@[simp] theorem zt87 : zeroT Tryz.prog 87 = true := by kernel_rfl
@[simp] theorem sz88 : sizeT Tryz.prog 88 = 1 := by kernel_rfl
@[simp] theorem ag88 : isAggT Tryz.prog 88 = some false := by kernel_rfl
@[simp] theorem zc88 : zcells Tryz.prog 88 = some [(.nilf, false)] := by kernel_rfl
@[simp] theorem zt88 : zeroT Tryz.prog 88 = true := by kernel_rfl
@[simp] theorem sz89 : sizeT Tryz.prog 89 = 1 := by kernel_rfl
@[simp] theorem ag89 : isAggT Tryz.prog 89 = some false := by kernel_rfl
@[simp] theorem zc89 : zcells Tryz.prog 89 = some [(.nilf, false)] := by kernel_rfl
@[simp] theorem zt89 : zeroT Tryz.prog 89 = true := by kernel_rfl
@[simp] theorem sz91 : sizeT Tryz.prog 91 = 1 := by kernel_rfl
@[simp] theorem ag91 : isAggT Tryz.prog 91 = some false := by kernel_rfl
@[simp] theorem zc91 : zcells Tryz.prog 91 = some [(.nilf, false)] := by kernel_rfl
@[simp] theorem zt91 : zeroT Tryz.prog 91 = true := by kernel_rfl
@[simp] theorem sz92 : sizeT Tryz.prog 92 = 1 := by kernel_rfl
@[simp] theorem ag92 : isAggT Tryz.prog 92 = some false := by kernel_rfl
@[simp] theorem zc92 : zcells Tryz.prog 92 = some [(.nilf, false)] := by kernel_rfl
@[simp] theorem zt92 : zeroT Tryz.prog 92 = true := by kernel_rfl
@[simp] theorem sz93 : sizeT Tryz.prog 93 = 1 := by kernel_rfl
@[simp] theorem ag93 : isAggT Tryz.prog 93 = some false := by kernel_rfl
@[simp] theorem zc93 : zcells Tryz.prog 93 = some [(.nilf, false)] := by kernel_rfl
@[simp] theorem zt93 : zeroT Tryz.prog 93 = true := by kernel_rfl
@[simp] theorem sz95 : sizeT Tryz.prog 95 = 1 := by kernel_rfl
@[simp] theorem ag95 : isAggT Tryz.prog 95 = some false := by kernel_rfl
@[simp] theorem zc95 : zcells Tryz.prog 95 = some [(.nilf, false)] := by kernel_rfl
@[simp] theorem zt95 : zeroT Tryz.prog 95 = true := by kernel_rfl
@[simp] theorem sz96 : sizeT Tryz.prog 96 = 1 := by kernel_rfl
@[simp] theorem ag96 : isAggT Tryz.prog 96 = some false := by kernel_rfl
@[simp] theorem zc96 : zcells Tryz.prog 96 = some [(.nilf, false)] := by kernel_rfl
@[simp] theorem zt96 : zeroT Tryz.prog 96 = true := by kernel_rfl
@[simp] theorem sz98 : sizeT Tryz.prog 98 = 1 := by kernel_rfl
@[simp] theorem ag98 : isAggT Tryz.prog 98 = some false := by kernel_rfl
@[simp] theorem zc98 : zcells Tryz.prog 98 = some [(.nilf, false)] := by kernel_rfl
@[simp] theorem zt98 : zeroT Tryz.prog 98 = true := by kernel_rfl
@[simp] theorem sz99 : sizeT Tryz.prog 99 = 1 := by kernel_rfl
@[simp] theorem ag99 : isAggT Tryz.prog 99 = some false := by kernel_rfl
@[simp] theorem zc99 : zcells Tryz.prog 99 = some [(.nilf, false)] := by kernel_rfl
@[simp] theorem zt99 : zeroT Tryz.prog 99 = true := by kernel_rfl
@[simp] theorem sz100 : sizeT Tryz.prog 100 = 1 := by kernel_rfl
@[simp] theorem ag100 : isAggT Tryz.prog 100 = some false := by kernel_rfl
@[simp] theorem zc100 : zcells Tryz.prog 100 = some [(.nilf, false)] := by kernel_rfl
@[simp] theorem zt100 : zeroT Tryz.prog 100 = true := by kernel_rfl
@[simp] theorem sz101 : sizeT Tryz.prog 101 = 1 := by kernel_rfl
@[simp] theorem ag101 : isAggT Tryz.prog 101 = some false := by kernel_rfl
@[simp] theorem zc101 : zcells Tryz.prog 101 = some [(.nilf, false)] := by kernel_rfl
@[simp] theorem zt101 : zeroT Tryz.prog 101 = true := by kernel_rfl
@[simp] theorem sz103 : sizeT Tryz.prog 103 = 1 := by kernel_rfl
@[simp] theorem ag103 : isAggT Tryz.prog 103 = some false := by kernel_rfl
@[simp] theorem zc103 : zcells Tryz.prog 103 = some [(.nilf, false)] := by kernel_rfl
@[simp] theorem zt103 : zeroT Tryz.prog 103 = true := by kernel_rfl
@[simp] theorem sz104 : sizeT Tryz.prog 104 = 1 := by kernel_rfl
@[simp] theorem ag104 : isAggT Tryz.prog 104 = some false := by kernel_rfl
@[simp] theorem zc104 : zcells Tryz.prog 104 = some [(.nilf, false)] := by kernel_rfl
@[simp] theorem zt104 : zeroT Tryz.prog 104 = true := by kernel_rfl
@[simp] theorem sz105 : sizeT Tryz.prog 105 = 1 := by kernel_rfl
@[simp] theorem ag105 : isAggT Tryz.prog 105 = some false := by kernel_rfl
@[simp] theorem zc105 : zcells Tryz.prog 105 = some [(.nilp, false)] := by kernel_rfl
@[simp] theorem zt105 : zeroT Tryz.prog 105 = true := by kernel_rfl
@[simp] theorem sz106 : sizeT Tryz.prog 106 = 1 := by kernel_rfl
@[simp] theorem ag106 : isAggT Tryz.prog 106 = some false := by kernel_rfl
@[simp] theorem zc106 : zcells Tryz.prog 106 = some [(.nilf, false)] := by kernel_rfl
@[simp] theorem zt106 : zeroT Tryz.prog 106 = true := by kernel_rfl
@[simp] theorem sz107 : sizeT Tryz.prog 107 = 1 := by kernel_rfl
@[simp] theorem ag107 : isAggT Tryz.prog 107 = some false := by kernel_rfl
@[simp] theorem zc107 : zcells Tryz.prog 107 = some [(.nilf, false)] := by kernel_rfl
@[simp] theorem zt107 : zeroT Tryz.prog 107 = true := by kernel_rfl
@[simp] theorem sz108 : sizeT Tryz.prog 108 = 1 := by kernel_rfl
@[simp] theorem ag108 : isAggT Tryz.prog 108 = some false := by kernel_rfl
@[simp] theorem zc108 : zcells Tryz.prog 108 = some [(.nilf, false)] := by kernel_rfl
@[simp] theorem zt108 : zeroT Tryz.prog 108 = true := by kernel_rfl
@[simp] theorem sz109 : sizeT Tryz.prog 109 = 2 := by kernel_rfl
@[simp] theorem ag109 : isAggT Tryz.prog 109 = some true := by kernel_rfl
@[simp] theorem zc109 : zcells Tryz.prog 109 = some [(.str ByteArray.empty, false), (.int .i64 0, false)] := by kernel_rfl
@[simp] theorem zt109 : zeroT Tryz.prog 109 = true := by kernel_rfl
@[simp] theorem fa109_0 (x : AVal) : afield Tryz.prog 109 x 0 = ashift 0 x := by kernel_rfl
@[simp] theorem fv109_0 (cs : List AVal) : afieldv Tryz.prog 109 (.agg cs) 0 = cs[0]? := by kernel_rfl
@[simp] theorem fa109_1 (x : AVal) : afield Tryz.prog 109 x 1 = ashift 1 x := by kernel_rfl
@[simp] theorem fv109_1 (cs : List AVal) : afieldv Tryz.prog 109 (.agg cs) 1 = cs[1]? := by kernel_rfl
@[simp] theorem bd109 (nl : Bool) (ps : List (Nat × AVal)) : abuild Tryz.prog nl 109 ps = afillL [(0, 1), (1, 1)] (if nl then [.str ByteArray.empty, .int .i64 0] else [.str ByteArray.empty, .int .i64 0]) ps := by cases nl <;> kernel_rfl
@[simp] theorem sz110 : sizeT Tryz.prog 110 = 2 := by kernel_rfl
@[simp] theorem ag110 : isAggT Tryz.prog 110 = some true := by kernel_rfl
@[simp] theorem zc110 : zcells Tryz.prog 110 = some [(.str ByteArray.empty, false), (.int .i64 0, false)] := by kernel_rfl
@[simp] theorem zt110 : zeroT Tryz.prog 110 = true := by kernel_rfl
@[simp] theorem fa110_0 (x : AVal) : afield Tryz.prog 110 x 0 = ashift 0 x := by kernel_rfl
@[simp] theorem fv110_0 (cs : List AVal) : afieldv Tryz.prog 110 (.agg cs) 0 = cs[0]? := by kernel_rfl
@[simp] theorem fa110_1 (x : AVal) : afield Tryz.prog 110 x 1 = ashift 1 x := by kernel_rfl
@[simp] theorem fv110_1 (cs : List AVal) : afieldv Tryz.prog 110 (.agg cs) 1 = cs[1]? := by kernel_rfl
@[simp] theorem bd110 (nl : Bool) (ps : List (Nat × AVal)) : abuild Tryz.prog nl 110 ps = afillL [(0, 1), (1, 1)] (if nl then [.str ByteArray.empty, .int .i64 0] else [.str ByteArray.empty, .int .i64 0]) ps := by cases nl <;> kernel_rfl
@[simp] theorem sz111 : sizeT Tryz.prog 111 = 1 := by kernel_rfl
@[simp] theorem ag111 : isAggT Tryz.prog 111 = some false := by kernel_rfl
@[simp] theorem zc111 : zcells Tryz.prog 111 = some [(.nilf, false)] := by kernel_rfl
@[simp] theorem zt111 : zeroT Tryz.prog 111 = true := by kernel_rfl
@[simp] theorem sz112 : sizeT Tryz.prog 112 = 1 := by kernel_rfl
@[simp] theorem ag112 : isAggT Tryz.prog 112 = some false := by kernel_rfl
@[simp] theorem zc112 : zcells Tryz.prog 112 = some [(.nilf, false)] := by kernel_rfl
@[simp] theorem zt112 : zeroT Tryz.prog 112 = true := by kernel_rfl
@[simp] theorem sz113 : sizeT Tryz.prog 113 = 1 := by kernel_rfl
@[simp] theorem ag113 : isAggT Tryz.prog 113 = some false := by kernel_rfl
@[simp] theorem zc113 : zcells Tryz.prog 113 = some [(.nilf, false)] := by kernel_rfl
@[simp] theorem zt113 : zeroT Tryz.prog 113 = true := by kernel_rfl
@[simp] theorem sz114 : sizeT Tryz.prog 114 = 1 := by kernel_rfl
@[simp] theorem ag114 : isAggT Tryz.prog 114 = some false := by kernel_rfl
@[simp] theorem zc114 : zcells Tryz.prog 114 = some [(.nilf, false)] := by kernel_rfl
@[simp] theorem zt114 : zeroT Tryz.prog 114 = true := by kernel_rfl
@[simp] theorem sz115 : sizeT Tryz.prog 115 = 1 := by kernel_rfl
@[simp] theorem ag115 : isAggT Tryz.prog 115 = some false := by kernel_rfl
@[simp] theorem zc115 : zcells Tryz.prog 115 = some [(.nilf, false)] := by kernel_rfl
@[simp] theorem zt115 : zeroT Tryz.prog 115 = true := by kernel_rfl
@[simp] theorem sz116 : sizeT Tryz.prog 116 = 1 := by kernel_rfl
@[simp] theorem ag116 : isAggT Tryz.prog 116 = some false := by kernel_rfl
@[simp] theorem zc116 : zcells Tryz.prog 116 = some [(.nilf, false)] := by kernel_rfl
@[simp] theorem zt116 : zeroT Tryz.prog 116 = true := by kernel_rfl
@[simp] theorem sz117 : sizeT Tryz.prog 117 = 1 := by kernel_rfl
@[simp] theorem ag117 : isAggT Tryz.prog 117 = some false := by kernel_rfl
@[simp] theorem zc117 : zcells Tryz.prog 117 = some [(.lst [], true)] := by kernel_rfl
@[simp] theorem zt117 : zeroT Tryz.prog 117 = true := by kernel_rfl
@[simp] theorem un117 : Tryz.prog.underlying 117 = some (.slice 32) := by kernel_rfl
@[simp] theorem st117 : slT Tryz.prog 117 = true := by kernel_rfl
@[simp] theorem ai117 : apInfo Tryz.prog 117 = some (32, 8, 1, false) := by kernel_rfl
@[simp] theorem sz118 : sizeT Tryz.prog 118 = 1 := by kernel_rfl
@[simp] theorem ag118 : isAggT Tryz.prog 118 = some false := by kernel_rfl
@[simp] theorem zc118 : zcells Tryz.prog 118 = some [(.nilf, false)] := by kernel_rfl
@[simp] theorem zt118 : zeroT Tryz.prog 118 = true := by kernel_rfl
@[simp] theorem sz119 : sizeT Tryz.prog 119 = 1 := by kernel_rfl
@[simp] theorem ag119 : isAggT Tryz.prog 119 = some false := by kernel_rfl
@[simp] theorem zc119 : zcells Tryz.prog 119 = some [(.nilf, false)] := by kernel_rfl
@[simp] theorem zt119 : zeroT Tryz.prog 119 = true := by kernel_rfl
@[simp] theorem sz120 : sizeT Tryz.prog 120 = 1 := by kernel_rfl
@[simp] theorem ag120 : isAggT Tryz.prog 120 = some false := by kernel_rfl
@[simp] theorem zc120 : zcells Tryz.prog 120 = some [(.nilf, false)] := by kernel_rfl
@[simp] theorem zt120 : zeroT Tryz.prog 120 = true := by kernel_rfl
@[simp] theorem sz121 : sizeT Tryz.prog 121 = 1 := by kernel_rfl
@[simp] theorem ag121 : isAggT Tryz.prog 121 = some false := by kernel_rfl
@[simp] theorem zc121 : zcells Tryz.prog 121 = some [(.nilf, false)] := by kernel_rfl
@[simp] theorem zt121 : zeroT Tryz.prog 121 = true := by kernel_rfl
@[simp] theorem sz122 : sizeT Tryz.prog 122 = 1 := by kernel_rfl
@[simp] theorem ag122 : isAggT Tryz.prog 122 = some false := by kernel_rfl
@[simp] theorem zc122 : zcells Tryz.prog 122 = some [(.nilf, false)] := by kernel_rfl
@[simp] theorem zt122 : zeroT Tryz.prog 122 = true := by kernel_rfl
@[simp] theorem sz123 : sizeT Tryz.prog 123 = 1 := by kernel_rfl
@[simp] theorem ag123 : isAggT Tryz.prog 123 = some false := by kernel_rfl
@[simp] theorem zc123 : zcells Tryz.prog 123 = some [(.nilf, false)] := by kernel_rfl
@[simp] theorem zt123 : zeroT Tryz.prog 123 = true := by kernel_rfl
@[simp] theorem sz124 : sizeT Tryz.prog 124 = 1 := by kernel_rfl
@[simp] theorem ag124 : isAggT Tryz.prog 124 = some false := by kernel_rfl
@[simp] theorem zc124 : zcells Tryz.prog 124 = some [(.nilf, false)] := by kernel_rfl
@[simp] theorem zt124 : zeroT Tryz.prog 124 = true := by kernel_rfl
@[simp] theorem sz125 : sizeT Tryz.prog 125 = 1 := by kernel_rfl
@[simp] theorem ag125 : isAggT Tryz.prog 125 = some false := by kernel_rfl
@[simp] theorem zc125 : zcells Tryz.prog 125 = some [(.nilf, false)] := by kernel_rfl
@[simp] theorem zt125 : zeroT Tryz.prog 125 = true := by kernel_rfl
@[simp] theorem sz126 : sizeT Tryz.prog 126 = 1 := by kernel_rfl
@[simp] theorem ag126 : isAggT Tryz.prog 126 = some false := by kernel_rfl
@[simp] theorem zc126 : zcells Tryz.prog 126 = some [(.nilf, false)] := by kernel_rfl
@[simp] theorem zt126 : zeroT Tryz.prog 126 = true := by kernel_rfl
@[simp] theorem sz127 : sizeT Tryz.prog 127 = 1 := by kernel_rfl
@[simp] theorem ag127 : isAggT Tryz.prog 127 = some false := by kernel_rfl
@[simp] theorem zc127 : zcells Tryz.prog 127 = some [(.nilf, false)] := by kernel_rfl
@[simp] theorem zt127 : zeroT Tryz.prog 127 = true := by kernel_rfl
@[simp] theorem sz128 : sizeT Tryz.prog 128 = 1 := by kernel_rfl
@[simp] theorem ag128 : isAggT Tryz.prog 128 = some false := by kernel_rfl
@[simp] theorem zc128 : zcells Tryz.prog 128 = some [(.nilf, false)] := by kernel_rfl
@[simp] theorem zt128 : zeroT Tryz.prog 128 = true := by kernel_rfl
@[simp] theorem sz129 : sizeT Tryz.prog 129 = 1 := by kernel_rfl
@[simp] theorem ag129 : isAggT Tryz.prog 129 = some false := by kernel_rfl
@[simp] theorem zc129 : zcells Tryz.prog 129 = some [(.nilf, false)] := by kernel_rfl
@[simp] theorem zt129 : zeroT Tryz.prog 129 = true := by kernel_rfl
@[simp] theorem sz130 : sizeT Tryz.prog 130 = 1 := by kernel_rfl
@[simp] theorem ag130 : isAggT Tryz.prog 130 = some false := by kernel_rfl
@[simp] theorem zc130 : zcells Tryz.prog 130 = some [(.nilf, false)] := by kernel_rfl
@[simp] theorem zt130 : zeroT Tryz.prog 130 = true := by kernel_rfl
@[simp] theorem sz131 : sizeT Tryz.prog 131 = 1 := by kernel_rfl
@[simp] theorem ag131 : isAggT Tryz.prog 131 = some false := by kernel_rfl
@[simp] theorem zc131 : zcells Tryz.prog 131 = some [(.lst [], true)] := by kernel_rfl
@[simp] theorem zt131 : zeroT Tryz.prog 131 = true := by kernel_rfl
@[simp] theorem un131 : Tryz.prog.underlying 131 = some (.slice 134) := by kernel_rfl
@[simp] theorem st131 : slT Tryz.prog 131 = true := by kernel_rfl
@[simp] theorem ai131 : apInfo Tryz.prog 131 = some (134, 8, 1, false) := by kernel_rfl
@[simp] theorem sz132 : sizeT Tryz.prog 132 = 1 := by kernel_rfl
@[simp] theorem ag132 : isAggT Tryz.prog 132 = some false := by kernel_rfl
@[simp] theorem zc132 : zcells Tryz.prog 132 = some [(.nilf, false)] := by kernel_rfl
@[simp] theorem zt132 : zeroT Tryz.prog 132 = true := by kernel_rfl
@[simp] theorem sz133 : sizeT Tryz.prog 133 = 1 := by kernel_rfl
@[simp] theorem ag133 : isAggT Tryz.prog 133 = some false := by kernel_rfl
@[simp] theorem zc133 : zcells Tryz.prog 133 = some [(.nilf, false)] := by kernel_rfl
@[simp] theorem zt133 : zeroT Tryz.prog 133 = true := by kernel_rfl
@[simp] theorem sz134 : sizeT Tryz.prog 134 = 1 := by kernel_rfl
@[simp] theorem ag134 : isAggT Tryz.prog 134 = some false := by kernel_rfl
@[simp] theorem zc134 : zcells Tryz.prog 134 = some [(.nilf, false)] := by kernel_rfl
@[simp] theorem zt134 : zeroT Tryz.prog 134 = true := by kernel_rfl
@[simp] theorem sz136 : sizeT Tryz.prog 136 = 1 := by kernel_rfl
@[simp] theorem ag136 : isAggT Tryz.prog 136 = some false := by kernel_rfl
@[simp] theorem zc136 : zcells Tryz.prog 136 = some [(.nilp, false)] := by kernel_rfl
@[simp] theorem zt136 : zeroT Tryz.prog 136 = true := by kernel_rfl
@[simp] theorem sz137 : sizeT Tryz.prog 137 = 1 := by kernel_rfl
@[simp] theorem ag137 : isAggT Tryz.prog 137 = some false := by kernel_rfl
@[simp] theorem zc137 : zcells Tryz.prog 137 = some [(.nilp, false)] := by kernel_rfl
@[simp] theorem zt137 : zeroT Tryz.prog 137 = true := by kernel_rfl
@[simp] theorem sz138 : sizeT Tryz.prog 138 = 1 := by kernel_rfl
@[simp] theorem ag138 : isAggT Tryz.prog 138 = some false := by kernel_rfl
@[simp] theorem zc138 : zcells Tryz.prog 138 = some [(.lst [], true)] := by kernel_rfl
@[simp] theorem zt138 : zeroT Tryz.prog 138 = true := by kernel_rfl
@[simp] theorem un138 : Tryz.prog.underlying 138 = some (.slice 5) := by kernel_rfl
@[simp] theorem st138 : slT Tryz.prog 138 = true := by kernel_rfl
@[simp] theorem ai138 : apInfo Tryz.prog 138 = some (5, 1, 1, false) := by kernel_rfl
@[simp] theorem sz139 : sizeT Tryz.prog 139 = 2 := by kernel_rfl
@[simp] theorem ag139 : isAggT Tryz.prog 139 = some true := by kernel_rfl
@[simp] theorem zc139 : zcells Tryz.prog 139 = some [(.nilp, false), (.lst [], true)] := by kernel_rfl
@[simp] theorem zt139 : zeroT Tryz.prog 139 = true := by kernel_rfl
@[simp] theorem fa139_0 (x : AVal) : afield Tryz.prog 139 x 0 = ashift 0 x := by kernel_rfl
@[simp] theorem fv139_0 (cs : List AVal) : afieldv Tryz.prog 139 (.agg cs) 0 = cs[0]? := by kernel_rfl
@[simp] theorem fa139_1 (x : AVal) : afield Tryz.prog 139 x 1 = ashift 1 x := by kernel_rfl
@[simp] theorem fv139_1 (cs : List AVal) : afieldv Tryz.prog 139 (.agg cs) 1 = cs[1]? := by kernel_rfl
@[simp] theorem bd139 (nl : Bool) (ps : List (Nat × AVal)) : abuild Tryz.prog nl 139 ps = afillL [(0, 1), (1, 1)] (if nl then [.nilp, .nils] else [.nilp, .lst []]) ps := by cases nl <;> kernel_rfl
@[simp] theorem sz140 : sizeT Tryz.prog 140 = 2 := by kernel_rfl
@[simp] theorem ag140 : isAggT Tryz.prog 140 = some true := by kernel_rfl
@[simp] theorem zc140 : zcells Tryz.prog 140 = some [(.nilp, false), (.lst [], true)] := by kernel_rfl
@[simp] theorem zt140 : zeroT Tryz.prog 140 = true := by kernel_rfl
@[simp] theorem fa140_0 (x : AVal) : afield Tryz.prog 140 x 0 = ashift 0 x := by kernel_rfl
@[simp] theorem fv140_0 (cs : List AVal) : afieldv Tryz.prog 140 (.agg cs) 0 = cs[0]? := by kernel_rfl
@[simp] theorem fa140_1 (x : AVal) : afield Tryz.prog 140 x 1 = ashift 1 x := by kernel_rfl
@[simp] theorem fv140_1 (cs : List AVal) : afieldv Tryz.prog 140 (.agg cs) 1 = cs[1]? := by kernel_rfl
@[simp] theorem bd140 (nl : Bool) (ps : List (Nat × AVal)) : abuild Tryz.prog nl 140 ps = afillL [(0, 1), (1, 1)] (if nl then [.nilp, .nils] else [.nilp, .lst []]) ps := by cases nl <;> kernel_rfl
@[simp] theorem sz141 : sizeT Tryz.prog 141 = 4 := by kernel_rfl
@[simp] theorem ag141 : isAggT Tryz.prog 141 = some true := by kernel_rfl
@[simp] theorem zc141 : zcells Tryz.prog 141 = some [(.nilp, false), (.lst [], true), (.int .i64 0, false), (.lst [], true)] := by kernel_rfl
@[simp] theorem zt141 : zeroT Tryz.prog 141 = true := by kernel_rfl
@[simp] theorem fa141_0 (x : AVal) : afield Tryz.prog 141 x 0 = ashift 0 x := by kernel_rfl
@[simp] theorem fv141_0 (cs : List AVal) : afieldv Tryz.prog 141 (.agg cs) 0 = if 0 + 2 ≤ cs.length then some (.agg ((cs.drop 0).take 2)) else none := by kernel_rfl
@[simp] theorem fa141_1 (x : AVal) : afield Tryz.prog 141 x 1 = ashift 2 x := by kernel_rfl
@[simp] theorem fv141_1 (cs : List AVal) : afieldv Tryz.prog 141 (.agg cs) 1 = cs[2]? := by kernel_rfl
@[simp] theorem fa141_2 (x : AVal) : afield Tryz.prog 141 x 2 = ashift 3 x := by kernel_rfl
@[simp] theorem fv141_2 (cs : List AVal) : afieldv Tryz.prog 141 (.agg cs) 2 = cs[3]? := by kernel_rfl
@[simp] theorem bd141 (nl : Bool) (ps : List (Nat × AVal)) : abuild Tryz.prog nl 141 ps = afillL [(0, 2), (2, 1), (3, 1)] (if nl then [.nilp, .nils, .int .i64 0, .nils] else [.nilp, .lst [], .int .i64 0, .lst []]) ps := by cases nl <;> kernel_rfl
@[simp] theorem sz142 : sizeT Tryz.prog 142 = 4 := by kernel_rfl
@[simp] theorem ag142 : isAggT Tryz.prog 142 = some true := by kernel_rfl
@[simp] theorem zc142 : zcells Tryz.prog 142 = some [(.nilp, false), (.lst [], true), (.int .i64 0, false), (.lst [], true)] := by kernel_rfl
@[simp] theorem zt142 : zeroT Tryz.prog 142 = true := by kernel_rfl
@[simp] theorem fa142_0 (x : AVal) : afield Tryz.prog 142 x 0 = ashift 0 x := by kernel_rfl
@[simp] theorem fv142_0 (cs : List AVal) : afieldv Tryz.prog 142 (.agg cs) 0 = if 0 + 2 ≤ cs.length then some (.agg ((cs.drop 0).take 2)) else none := by kernel_rfl
@[simp] theorem fa142_1 (x : AVal) : afield Tryz.prog 142 x 1 = ashift 2 x := by kernel_rfl
@[simp] theorem fv142_1 (cs : List AVal) : afieldv Tryz.prog 142 (.agg cs) 1 = cs[2]? := by kernel_rfl
@[simp] theorem fa142_2 (x : AVal) : afield Tryz.prog 142 x 2 = ashift 3 x := by kernel_rfl
@[simp] theorem fv142_2 (cs : List AVal) : afieldv Tryz.prog 142 (.agg cs) 2 = cs[3]? := by kernel_rfl
@[simp] theorem bd142 (nl : Bool) (ps : List (Nat × AVal)) : abuild Tryz.prog nl 142 ps = afillL [(0, 2), (2, 1), (3, 1)] (if nl then [.nilp, .nils, .int .i64 0, .nils] else [.nilp, .lst [], .int .i64 0, .lst []]) ps := by cases nl <;> kernel_rfl
@[simp] theorem sz143 : sizeT Tryz.prog 143 = 1 := by kernel_rfl
@[simp] theorem ag143 : isAggT Tryz.prog 143 = some false := by kernel_rfl
@[simp] theorem zc143 : zcells Tryz.prog 143 = some [(.nilf, false)] := by kernel_rfl
@[simp] theorem zt143 : zeroT Tryz.prog 143 = true := by kernel_rfl
@[simp] theorem sz144 : sizeT Tryz.prog 144 = 1 := by kernel_rfl
@[simp] theorem ag144 : isAggT Tryz.prog 144 = some false := by kernel_rfl
@[simp] theorem zc144 : zcells Tryz.prog 144 = some [(.nilf, false)] := by kernel_rfl
@[simp] theorem zt144 : zeroT Tryz.prog 144 = true := by kernel_rfl
@[simp] theorem sz145 : sizeT Tryz.prog 145 = 1 := by kernel_rfl
@[simp] theorem ag145 : isAggT Tryz.prog 145 = some false := by kernel_rfl
@[simp] theorem zc145 : zcells Tryz.prog 145 = some [(.nilf, false)] := by kernel_rfl
@[simp] theorem zt145 : zeroT Tryz.prog 145 = true := by kernel_rfl
@[simp] theorem sz146 : sizeT Tryz.prog 146 = 1 := by kernel_rfl
@[simp] theorem ag146 : isAggT Tryz.prog 146 = some false := by kernel_rfl
@[simp] theorem zc146 : zcells Tryz.prog 146 = some [(.nilf, false)] := by kernel_rfl
@[simp] theorem zt146 : zeroT Tryz.prog 146 = true := by kernel_rfl
@[simp] theorem sz147 : sizeT Tryz.prog 147 = 1 := by kernel_rfl
@[simp] theorem ag147 : isAggT Tryz.prog 147 = some false := by kernel_rfl
@[simp] theorem zc147 : zcells Tryz.prog 147 = some [(.nilf, false)] := by kernel_rfl
@[simp] theorem zt147 : zeroT Tryz.prog 147 = true := by kernel_rfl
@[simp] theorem sz148 : sizeT Tryz.prog 148 = 1 := by kernel_rfl
@[simp] theorem ag148 : isAggT Tryz.prog 148 = some false := by kernel_rfl
@[simp] theorem zc148 : zcells Tryz.prog 148 = some [(.nilp, false)] := by kernel_rfl
@[simp] theorem zt148 : zeroT Tryz.prog 148 = true := by kernel_rfl
@[simp] theorem sz149 : sizeT Tryz.prog 149 = 1 := by kernel_rfl
@[simp] theorem ag149 : isAggT Tryz.prog 149 = some false := by kernel_rfl
@[simp] theorem zc149 : zcells Tryz.prog 149 = some [(.nilf, false)] := by kernel_rfl
@[simp] theorem zt149 : zeroT Tryz.prog 149 = true := by kernel_rfl
@[simp] theorem sz150 : sizeT Tryz.prog 150 = 1 := by kernel_rfl
@[simp] theorem ag150 : isAggT Tryz.prog 150 = some false := by kernel_rfl
@[simp] theorem zc150 : zcells Tryz.prog 150 = some [(.nilf, false)] := by kernel_rfl
@[simp] theorem zt150 : zeroT Tryz.prog 150 = true := by kernel_rfl
@[simp] theorem sz151 : sizeT Tryz.prog 151 = 1 := by kernel_rfl
@[simp] theorem ag151 : isAggT Tryz.prog 151 = some false := by kernel_rfl
@[simp] theorem zc151 : zcells Tryz.prog 151 = some [(.nilp, false)] := by kernel_rfl
@[simp] theorem zt151 : zeroT Tryz.prog 151 = true := by kernel_rfl
@[simp] theorem sz152 : sizeT Tryz.prog 152 = 1 := by kernel_rfl
@[simp] theorem ag152 : isAggT Tryz.prog 152 = some false := by kernel_rfl
@[simp] theorem zc152 : zcells Tryz.prog 152 = some [(.lst [], true)] := by kernel_rfl
@[simp] theorem zt152 : zeroT Tryz.prog 152 = true := by kernel_rfl
@[simp] theorem un152 : Tryz.prog.underlying 152 = some (.slice 242) := by kernel_rfl
@[simp] theorem st152 : slT Tryz.prog 152 = true := by kernel_rfl
@[simp] theorem ai152 : apInfo Tryz.prog 152 = some (242, 40, 3, true) := by kernel_rfl
@[simp] theorem sz153 : sizeT Tryz.prog 153 = 1 := by kernel_rfl
@[simp] theorem ag153 : isAggT Tryz.prog 153 = some false := by kernel_rfl
@[simp] theorem zc153 : zcells Tryz.prog 153 = some [(.nilf, false)] := by kernel_rfl
@[simp] theorem zt153 : zeroT Tryz.prog 153 = true := by kernel_rfl
@[simp] theorem sz154 : sizeT Tryz.prog 154 = 3 := by kernel_rfl
@[simp] theorem ag154 : isAggT Tryz.prog 154 = some true := by kernel_rfl
@[simp] theorem zc154 : zcells Tryz.prog 154 = some [(.lst [], true), (.int .i64 0, false), (.bool false, false)] := by kernel_rfl
@[simp] theorem zt154 : zeroT Tryz.prog 154 = true := by kernel_rfl
@[simp] theorem fa154_0 (x : AVal) : afield Tryz.prog 154 x 0 = ashift 0 x := by kernel_rfl
@[simp] theorem fv154_0 (cs : List AVal) : afieldv Tryz.prog 154 (.agg cs) 0 = cs[0]? := by kernel_rfl
@[simp] theorem fa154_1 (x : AVal) : afield Tryz.prog 154 x 1 = ashift 1 x := by kernel_rfl
@[simp] theorem fv154_1 (cs : List AVal) : afieldv Tryz.prog 154 (.agg cs) 1 = cs[1]? := by kernel_rfl
@[simp] theorem fa154_2 (x : AVal) : afield Tryz.prog 154 x 2 = ashift 2 x := by kernel_rfl
@[simp] theorem fv154_2 (cs : List AVal) : afieldv Tryz.prog 154 (.agg cs) 2 = cs[2]? := by kernel_rfl
@[simp] theorem bd154 (nl : Bool) (ps : List (Nat × AVal)) : abuild Tryz.prog nl 154 ps = afillL [(0, 1), (1, 1), (2, 1)] (if nl then [.nils, .int .i64 0, .bool false] else [.lst [], .int .i64 0, .bool false]) ps := by cases nl <;> kernel_rfl
@[simp] theorem sz155 : sizeT Tryz.prog 155 = 3 := by kernel_rfl
@[simp] theorem ag155 : isAggT Tryz.prog 155 = some true := by kernel_rfl
@[simp] theorem zc155 : zcells Tryz.prog 155 = some [(.lst [], true), (.int .i64 0, false), (.bool false, false)] := by kernel_rfl
@[simp] theorem zt155 : zeroT Tryz.prog 155 = true := by kernel_rfl
@[simp] theorem fa155_0 (x : AVal) : afield Tryz.prog 155 x 0 = ashift 0 x := by kernel_rfl
@[simp] theorem fv155_0 (cs : List AVal) : afieldv Tryz.prog 155 (.agg cs) 0 = cs[0]? := by kernel_rfl
@[simp] theorem fa155_1 (x : AVal) : afield Tryz.prog 155 x 1 = ashift 1 x := by kernel_rfl
@[simp] theorem fv155_1 (cs : List AVal) : afieldv Tryz.prog 155 (.agg cs) 1 = cs[1]? := by kernel_rfl
@[simp] theorem fa155_2 (x : AVal) : afield Tryz.prog 155 x 2 = ashift 2 x := by kernel_rfl
@[simp] theorem fv155_2 (cs : List AVal) : afieldv Tryz.prog 155 (.agg cs) 2 = cs[2]? := by kernel_rfl
@[simp] theorem bd155 (nl : Bool) (ps : List (Nat × AVal)) : abuild Tryz.prog nl 155 ps = afillL [(0, 1), (1, 1), (2, 1)] (if nl then [.nils, .int .i64 0, .bool false] else [.lst [], .int .i64 0, .bool false]) ps := by cases nl <;> kernel_rfl
@[simp] theorem sz156 : sizeT Tryz.prog 156 = 1 := by kernel_rfl
@[simp] theorem ag156 : isAggT Tryz.prog 156 = some false := by kernel_rfl
@[simp] theorem zc156 : zcells Tryz.prog 156 = some [(.nilf, false)] := by kernel_rfl
@[simp] theorem zt156 : zeroT Tryz.prog 156 = true := by kernel_rfl
@[simp] theorem sz157 : sizeT Tryz.prog 157 = 1 := by kernel_rfl
@[simp] theorem ag157 : isAggT Tryz.prog 157 = some false := by kernel_rfl
@[simp] theorem zc157 : zcells Tryz.prog 157 = some [(.nilf, false)] := by kernel_rfl
@[simp] theorem zt157 : zeroT Tryz.prog 157 = true := by kernel_rfl
@[simp] theorem sz158 : sizeT Tryz.prog 158 = 1 := by kernel_rfl
@[simp] theorem ag158 : isAggT Tryz.prog 158 = some false := by kernel_rfl
@[simp] theorem zc158 : zcells Tryz.prog 158 = some [(.lst [], true)] := by kernel_rfl
@[simp] theorem zt158 : zeroT Tryz.prog 158 = true := by kernel_rfl
@[simp] theorem un158 : Tryz.prog.underlying 158 = some (.slice 160) := by kernel_rfl
@[simp] theorem st158 : slT Tryz.prog 158 = true := by kernel_rfl
@[simp] theorem ai158 : apInfo Tryz.prog 158 = some (160, 40, 2, true) := by kernel_rfl
@[simp] theorem sz159 : sizeT Tryz.prog 159 = 2 := by kernel_rfl
@[simp] theorem ag159 : isAggT Tryz.prog 159 = some true := by kernel_rfl
@[simp] theorem zc159 : zcells Tryz.prog 159 = some [(.str ByteArray.empty, false), (.lst [], true)] := by kernel_rfl
@[simp] theorem zt159 : zeroT Tryz.prog 159 = true := by kernel_rfl
@[simp] theorem fa159_0 (x : AVal) : afield Tryz.prog 159 x 0 = ashift 0 x := by kernel_rfl
@[simp] theorem fv159_0 (cs : List AVal) : afieldv Tryz.prog 159 (.agg cs) 0 = cs[0]? := by kernel_rfl
@[simp] theorem fa159_1 (x : AVal) : afield Tryz.prog 159 x 1 = ashift 1 x := by kernel_rfl
@[simp] theorem fv159_1 (cs : List AVal) : afieldv Tryz.prog 159 (.agg cs) 1 = cs[1]? := by kernel_rfl
@[simp] theorem bd159 (nl : Bool) (ps : List (Nat × AVal)) : abuild Tryz.prog nl 159 ps = afillL [(0, 1), (1, 1)] (if nl then [.str ByteArray.empty, .nils] else [.str ByteArray.empty, .lst []]) ps := by cases nl <;> kernel_rfl
@[simp] theorem sz160 : sizeT Tryz.prog 160 = 2 := by kernel_rfl
@[simp] theorem ag160 : isAggT Tryz.prog 160 = some true := by kernel_rfl
@[simp] theorem zc160 : zcells Tryz.prog 160 = some [(.str ByteArray.empty, false), (.lst [], true)] := by kernel_rfl
@[simp] theorem zt160 : zeroT Tryz.prog 160 = true := by kernel_rfl
@[simp] theorem fa160_0 (x : AVal) : afield Tryz.prog 160 x 0 = ashift 0 x := by kernel_rfl
@[simp] theorem fv160_0 (cs : List AVal) : afieldv Tryz.prog 160 (.agg cs) 0 = cs[0]? := by kernel_rfl
@[simp] theorem fa160_1 (x : AVal) : afield Tryz.prog 160 x 1 = ashift 1 x := by kernel_rfl
@[simp] theorem fv160_1 (cs : List AVal) : afieldv Tryz.prog 160 (.agg cs) 1 = cs[1]? := by kernel_rfl
@[simp] theorem bd160 (nl : Bool) (ps : List (Nat × AVal)) : abuild Tryz.prog nl 160 ps = afillL [(0, 1), (1, 1)] (if nl then [.str ByteArray.empty, .nils] else [.str ByteArray.empty, .lst []]) ps := by cases nl <;> kernel_rfl
@[simp] theorem sz161 : sizeT Tryz.prog 161 = 1 := by kernel_rfl
@[simp] theorem ag161 : isAggT Tryz.prog 161 = some false := by kernel_rfl
@[simp] theorem zc161 : zcells Tryz.prog 161 = some [(.nilf, false)] := by kernel_rfl
@[simp] theorem zt161 : zeroT Tryz.prog 161 = true := by kernel_rfl
@[simp] theorem sz162 : sizeT Tryz.prog 162 = 1 := by kernel_rfl
@[simp] theorem ag162 : isAggT Tryz.prog 162 = some false := by kernel_rfl
@[simp] theorem zc162 : zcells Tryz.prog 162 = some [(.nilf, false)] := by kernel_rfl
@[simp] theorem zt162 : zeroT Tryz.prog 162 = true := by kernel_rfl
@[simp] theorem sz163 : sizeT Tryz.prog 163 = 3 := by kernel_rfl
@[simp] theorem ag163 : isAggT Tryz.prog 163 = some true := by kernel_rfl
@[simp] theorem zc163 : zcells Tryz.prog 163 = some [(.str ByteArray.empty, false), (.lst [], true), (.lst [], true)] := by kernel_rfl
@[simp] theorem zt163 : zeroT Tryz.prog 163 = true := by kernel_rfl
@[simp] theorem fa163_0 (x : AVal) : afield Tryz.prog 163 x 0 = ashift 0 x := by kernel_rfl
@[simp] theorem fv163_0 (cs : List AVal) : afieldv Tryz.prog 163 (.agg cs) 0 = cs[0]? := by kernel_rfl
@[simp] theorem fa163_1 (x : AVal) : afield Tryz.prog 163 x 1 = ashift 1 x := by kernel_rfl
@[simp] theorem fv163_1 (cs : List AVal) : afieldv Tryz.prog 163 (.agg cs) 1 = cs[1]? := by kernel_rfl
@[simp] theorem fa163_2 (x : AVal) : afield Tryz.prog 163 x 2 = ashift 2 x := by kernel_rfl
@[simp] theorem fv163_2 (cs : List AVal) : afieldv Tryz.prog 163 (.agg cs) 2 = cs[2]? := by kernel_rfl
@[simp] theorem bd163 (nl : Bool) (ps : List (Nat × AVal)) : abuild Tryz.prog nl 163 ps = afillL [(0, 1), (1, 1), (2, 1)] (if nl then [.str ByteArray.empty, .nils, .nils] else [.str ByteArray.empty, .lst [], .lst []]) ps := by cases nl <;> kernel_rfl
@[simp] theorem sz164 : sizeT Tryz.prog 164 = 3 := by kernel_rfl
@[simp] theorem ag164 : isAggT Tryz.prog 164 = some true := by kernel_rfl
@[simp] theorem zc164 : zcells Tryz.prog 164 = some [(.str ByteArray.empty, false), (.lst [], true), (.lst [], true)] := by kernel_rfl
@[simp] theorem zt164 : zeroT Tryz.prog 164 = true := by kernel_rfl
@[simp] theorem fa164_0 (x : AVal) : afield Tryz.prog 164 x 0 = ashift 0 x := by kernel_rfl
@[simp] theorem fv164_0 (cs : List AVal) : afieldv Tryz.prog 164 (.agg cs) 0 = cs[0]? := by kernel_rfl
@[simp] theorem fa164_1 (x : AVal) : afield Tryz.prog 164 x 1 = ashift 1 x := by kernel_rfl
@[simp] theorem fv164_1 (cs : List AVal) : afieldv Tryz.prog 164 (.agg cs) 1 = cs[1]? := by kernel_rfl
@[simp] theorem fa164_2 (x : AVal) : afield Tryz.prog 164 x 2 = ashift 2 x := by kernel_rfl
@[simp] theorem fv164_2 (cs : List AVal) : afieldv Tryz.prog 164 (.agg cs) 2 = cs[2]? := by kernel_rfl
@[simp] theorem bd164 (nl : Bool) (ps : List (Nat × AVal)) : abuild Tryz.prog nl 164 ps = afillL [(0, 1), (1, 1), (2, 1)] (if nl then [.str ByteArray.empty, .nils, .nils] else [.str ByteArray.empty, .lst [], .lst []]) ps := by cases nl <;> kernel_rfl
@[simp] theorem sz165 : sizeT Tryz.prog 165 = 1 := by kernel_rfl
@[simp] theorem ag165 : isAggT Tryz.prog 165 = some false := by kernel_rfl
@[simp] theorem zc165 : zcells Tryz.prog 165 = some [(.nilf, false)] := by kernel_rfl
@[simp] theorem zt165 : zeroT Tryz.prog 165 = true := by kernel_rfl
@[simp] theorem sz166 : sizeT Tryz.prog 166 = 1 := by kernel_rfl
@[simp] theorem ag166 : isAggT Tryz.prog 166 = some false := by kernel_rfl
@[simp] theorem zc166 : zcells Tryz.prog 166 = some [(.nilp, false)] := by kernel_rfl
@[simp] theorem zt166 : zeroT Tryz.prog 166 = true := by kernel_rfl
@[simp] theorem sz167 : sizeT Tryz.prog 167 = 1 := by kernel_rfl
@[simp] theorem ag167 : isAggT Tryz.prog 167 = some false := by kernel_rfl
@[simp] theorem zc167 : zcells Tryz.prog 167 = some [(.nilf, false)] := by kernel_rfl
@[simp] theorem zt167 : zeroT Tryz.prog 167 = true := by kernel_rfl
@[simp] theorem sz168 : sizeT Tryz.prog 168 = 1 := by kernel_rfl
@[simp] theorem ag168 : isAggT Tryz.prog 168 = some false := by kernel_rfl
@[simp] theorem zc168 : zcells Tryz.prog 168 = some [(.nilf, false)] := by kernel_rfl
@[simp] theorem zt168 : zeroT Tryz.prog 168 = true := by kernel_rfl
@[simp] theorem sz169 : sizeT Tryz.prog 169 = 1 := by kernel_rfl
@[simp] theorem ag169 : isAggT Tryz.prog 169 = some false := by kernel_rfl
@[simp] theorem zc169 : zcells Tryz.prog 169 = some [(.nilp, false)] := by kernel_rfl
@[simp] theorem zt169 : zeroT Tryz.prog 169 = true := by kernel_rfl
@[simp] theorem sz170 : sizeT Tryz.prog 170 = 1 := by kernel_rfl
@[simp] theorem ag170 : isAggT Tryz.prog 170 = some false := by kernel_rfl
@[simp] theorem zc170 : zcells Tryz.prog 170 = some [(.nilf, false)] := by kernel_rfl
@[simp] theorem zt170 : zeroT Tryz.prog 170 = true := by kernel_rfl
@[simp] theorem sz171 : sizeT Tryz.prog 171 = 1 := by kernel_rfl
@[simp] theorem ag171 : isAggT Tryz.prog 171 = some false := by kernel_rfl
@[simp] theorem zc171 : zcells Tryz.prog 171 = some [(.nilf, false)] := by kernel_rfl
@[simp] theorem zt171 : zeroT Tryz.prog 171 = true := by kernel_rfl
@[simp] theorem sz173 : sizeT Tryz.prog 173 = 1 := by kernel_rfl
@[simp] theorem ag173 : isAggT Tryz.prog 173 = some false := by kernel_rfl
@[simp] theorem zc173 : zcells Tryz.prog 173 = some [(.nilf, false)] := by kernel_rfl
@[simp] theorem zt173 : zeroT Tryz.prog 173 = true := by kernel_rfl
@[simp] theorem sz174 : sizeT Tryz.prog 174 = 1 := by kernel_rfl
@[simp] theorem ag174 : isAggT Tryz.prog 174 = some false := by kernel_rfl
@[simp] theorem zc174 : zcells Tryz.prog 174 = some [(.nilf, false)] := by kernel_rfl
@[simp] theorem zt174 : zeroT Tryz.prog 174 = true := by kernel_rfl
@[simp] theorem sz175 : sizeT Tryz.prog 175 = 13 := by kernel_rfl
@[simp] theorem ag175 : isAggT Tryz.prog 175 = some true := by kernel_rfl
@[simp] theorem zc175 : zcells Tryz.prog 175 = some [(.int .i64 0, false), (.str ByteArray.empty, false), (.str ByteArray.empty, false), (.str ByteArray.empty, false), (.str ByteArray.empty, false), (.int .i64 0, false), (.int .i64 0, false), (.str ByteArray.empty, false), (.lst [], true), (.lst [], true), (.lst [], true), (.str ByteArray.empty, false), (.lst [], true)] := by kernel_rfl
@[simp] theorem zt175 : zeroT Tryz.prog 175 = true := by kernel_rfl
@[simp] theorem fa175_0 (x : AVal) : afield Tryz.prog 175 x 0 = ashift 0 x := by kernel_rfl
@[simp] theorem fv175_0 (cs : List AVal) : afieldv Tryz.prog 175 (.agg cs) 0 = cs[0]? := by kernel_rfl
@[simp] theorem fa175_1 (x : AVal) : afield Tryz.prog 175 x 1 = ashift 1 x := by kernel_rfl
@[simp] theorem fv175_1 (cs : List AVal) : afieldv Tryz.prog 175 (.agg cs) 1 = cs[1]? := by kernel_rfl
@[simp] theorem fa175_2 (x : AVal) : afield Tryz.prog 175 x 2 = ashift 2 x := by kernel_rfl
@[simp] theorem fv175_2 (cs : List AVal) : afieldv Tryz.prog 175 (.agg cs) 2 = cs[2]? := by kernel_rfl
@[simp] theorem fa175_3 (x : AVal) : afield Tryz.prog 175 x 3 = ashift 3 x := by kernel_rfl
@[simp] theorem fv175_3 (cs : List AVal) : afieldv Tryz.prog 175 (.agg cs) 3 = cs[3]? := by kernel_rfl
@[simp] theorem fa175_4 (x : AVal) : afield Tryz.prog 175 x 4 = ashift 4 x := by kernel_rfl
@[simp] theorem fv175_4 (cs : List AVal) : afieldv Tryz.prog 175 (.agg cs) 4 = cs[4]? := by kernel_rfl
@[simp] theorem fa175_5 (x : AVal) : afield Tryz.prog 175 x 5 = ashift 5 x := by kernel_rfl
@[simp] theorem fv175_5 (cs : List AVal) : afieldv Tryz.prog 175 (.agg cs) 5 = if 5 + 4 ≤ cs.length then some (.agg ((cs.drop 5).take 4)) else none := by kernel_rfl
@[simp] theorem fa175_6 (x : AVal) : afield Tryz.prog 175 x 6 = ashift 9 x := by kernel_rfl
@[simp] theorem fv175_6 (cs : List AVal) : afieldv Tryz.prog 175 (.agg cs) 6 = cs[9]? := by kernel_rfl
@[simp] theorem fa175_7 (x : AVal) : afield Tryz.prog 175 x 7 = ashift 10 x := by kernel_rfl
@[simp] theorem fv175_7 (cs : List AVal) : afieldv Tryz.prog 175 (.agg cs) 7 = cs[10]? := by kernel_rfl
@[simp] theorem fa175_8 (x : AVal) : afield Tryz.prog 175 x 8 = ashift 11 x := by kernel_rfl
@[simp] theorem fv175_8 (cs : List AVal) : afieldv Tryz.prog 175 (.agg cs) 8 = cs[11]? := by kernel_rfl
@[simp] theorem fa175_9 (x : AVal) : afield Tryz.prog 175 x 9 = ashift 12 x := by kernel_rfl
@[simp] theorem fv175_9 (cs : List AVal) : afieldv Tryz.prog 175 (.agg cs) 9 = cs[12]? := by kernel_rfl
@[simp] theorem bd175 (nl : Bool) (ps : List (Nat × AVal)) : abuild Tryz.prog nl 175 ps = afillL [(0, 1), (1, 1), (2, 1), (3, 1), (4, 1), (5, 4), (9, 1), (10, 1), (11, 1), (12, 1)] (if nl then [.int .i64 0, .str ByteArray.empty, .str ByteArray.empty, .str ByteArray.empty, .str ByteArray.empty, .int .i64 0, .int .i64 0, .str ByteArray.empty, .nils, .nils, .nils, .str ByteArray.empty, .nils] else [.int .i64 0, .str ByteArray.empty, .str ByteArray.empty, .str ByteArray.empty, .str ByteArray.empty, .int .i64 0, .int .i64 0, .str ByteArray.empty, .lst [], .lst [], .lst [], .str ByteArray.empty, .lst []]) ps := by cases nl <;> kernel_rfl
@[simp] theorem sz176 : sizeT Tryz.prog 176 = 13 := by kernel_rfl
@[simp] theorem ag176 : isAggT Tryz.prog 176 = some true := by kernel_rfl
@[simp] theorem zc176 : zcells Tryz.prog 176 = some [(.int .i64 0, false), (.str ByteArray.empty, false), (.str ByteArray.empty, false), (.str ByteArray.empty, false), (.str ByteArray.empty, false), (.int .i64 0, false), (.int .i64 0, false), (.str ByteArray.empty, false), (.lst [], true), (.lst [], true), (.lst [], true), (.str ByteArray.empty, false), (.lst [], true)] := by kernel_rfl
@[simp] theorem zt176 : zeroT Tryz.prog 176 = true := by kernel_rfl
@[simp] theorem fa176_0 (x : AVal) : afield Tryz.prog 176 x 0 = ashift 0 x := by kernel_rfl
@[simp] theorem fv176_0 (cs : List AVal) : afieldv Tryz.prog 176 (.agg cs) 0 = cs[0]? := by kernel_rfl
@[simp] theorem fa176_1 (x : AVal) : afield Tryz.prog 176 x 1 = ashift 1 x := by kernel_rfl
@[simp] theorem fv176_1 (cs : List AVal) : afieldv Tryz.prog 176 (.agg cs) 1 = cs[1]? := by kernel_rfl
@[simp] theorem fa176_2 (x : AVal) : afield Tryz.prog 176 x 2 = ashift 2 x := by kernel_rfl
@[simp] theorem fv176_2 (cs : List AVal) : afieldv Tryz.prog 176 (.agg cs) 2 = cs[2]? := by kernel_rfl
@[simp] theorem fa176_3 (x : AVal) : afield Tryz.prog 176 x 3 = ashift 3 x := by kernel_rfl
@[simp] theorem fv176_3 (cs : List AVal) : afieldv Tryz.prog 176 (.agg cs) 3 = cs[3]? := by kernel_rfl
@[simp] theorem fa176_4 (x : AVal) : afield Tryz.prog 176 x 4 = ashift 4 x := by kernel_rfl
@[simp] theorem fv176_4 (cs : List AVal) : afieldv Tryz.prog 176 (.agg cs) 4 = cs[4]? := by kernel_rfl
@[simp] theorem fa176_5 (x : AVal) : afield Tryz.prog 176 x 5 = ashift 5 x := by kernel_rfl
@[simp] theorem fv176_5 (cs : List AVal) : afieldv Tryz.prog 176 (.agg cs) 5 = if 5 + 4 ≤ cs.length then some (.agg ((cs.drop 5).take 4)) else none := by kernel_rfl
@[simp] theorem fa176_6 (x : AVal) : afield Tryz.prog 176 x 6 = ashift 9 x := by kernel_rfl
@[simp] theorem fv176_6 (cs : List AVal) : afieldv Tryz.prog 176 (.agg cs) 6 = cs[9]? := by kernel_rfl
@[simp] theorem fa176_7 (x : AVal) : afield Tryz.prog 176 x 7 = ashift 10 x := by kernel_rfl
@[simp] theorem fv176_7 (cs : List AVal) : afieldv Tryz.prog 176 (.agg cs) 7 = cs[10]? := by kernel_rfl
@[simp] theorem fa176_8 (x : AVal) : afield Tryz.prog 176 x 8 = ashift 11 x := by kernel_rfl
@[simp] theorem fv176_8 (cs : List AVal) : afieldv Tryz.prog 176 (.agg cs) 8 = cs[11]? := by kernel_rfl
@[simp] theorem fa176_9 (x : AVal) : afield Tryz.prog 176 x 9 = ashift 12 x := by kernel_rfl
@[simp] theorem fv176_9 (cs : List AVal) : afieldv Tryz.prog 176 (.agg cs) 9 = cs[12]? := by kernel_rfl
@[simp] theorem bd176 (nl : Bool) (ps : List (Nat × AVal)) : abuild Tryz.prog nl 176 ps = afillL [(0, 1), (1, 1), (2, 1), (3, 1), (4, 1), (5, 4), (9, 1), (10, 1), (11, 1), (12, 1)] (if nl then [.int .i64 0, .str ByteArray.empty, .str ByteArray.empty, .str ByteArray.empty, .str ByteArray.empty, .int .i64 0, .int .i64 0, .str ByteArray.empty, .nils, .nils, .nils, .str ByteArray.empty, .nils] else [.int .i64 0, .str ByteArray.empty, .str ByteArray.empty, .str ByteArray.empty, .str ByteArray.empty, .int .i64 0, .int .i64 0, .str ByteArray.empty, .lst [], .lst [], .lst [], .str ByteArray.empty, .lst []]) ps := by cases nl <;> kernel_rfl
@[simp] theorem sz177 : sizeT Tryz.prog 177 = 1 := by kernel_rfl
@[simp] theorem ag177 : isAggT Tryz.prog 177 = some false := by kernel_rfl
@[simp] theorem zc177 : zcells Tryz.prog 177 = some [(.nilf, false)] := by kernel_rfl
@[simp] theorem zt177 : zeroT Tryz.prog 177 = true := by kernel_rfl
@[simp] theorem sz178 : sizeT Tryz.prog 178 = 1 := by kernel_rfl
@[simp] theorem ag178 : isAggT Tryz.prog 178 = some false := by kernel_rfl
@[simp] theorem zc178 : zcells Tryz.prog 178 = some [(.nilm, false)] := by kernel_rfl
@[simp] theorem zt178 : zeroT Tryz.prog 178 = true := by kernel_rfl
@[simp] theorem un178 : Tryz.prog.underlying 178 = some (.map 9 4) := by kernel_rfl
@[simp] theorem sz179 : sizeT Tryz.prog 179 = 1 := by kernel_rfl
@[simp] theorem ag179 : isAggT Tryz.prog 179 = some false := by kernel_rfl
@[simp] theorem zc179 : zcells Tryz.prog 179 = some [(.nilf, false)] := by kernel_rfl
@[simp] theorem zt179 : zeroT Tryz.prog 179 = true := by kernel_rfl
@[simp] theorem sz180 : sizeT Tryz.prog 180 = 1 := by kernel_rfl
@[simp] theorem ag180 : isAggT Tryz.prog 180 = some false := by kernel_rfl
@[simp] theorem zc180 : zcells Tryz.prog 180 = some [(.nilf, false)] := by kernel_rfl
@[simp] theorem zt180 : zeroT Tryz.prog 180 = true := by kernel_rfl
@[simp] theorem sz181 : sizeT Tryz.prog 181 = 1 := by kernel_rfl
@[simp] theorem ag181 : isAggT Tryz.prog 181 = some false := by kernel_rfl
@[simp] theorem zc181 : zcells Tryz.prog 181 = some [(.nilf, false)] := by kernel_rfl
@[simp] theorem zt181 : zeroT Tryz.prog 181 = true := by kernel_rfl
@[simp] theorem sz182 : sizeT Tryz.prog 182 = 1 := by kernel_rfl
@[simp] theorem ag182 : isAggT Tryz.prog 182 = some false := by kernel_rfl
@[simp] theorem zc182 : zcells Tryz.prog 182 = some [(.lst [], true)] := by kernel_rfl
@[simp] theorem zt182 : zeroT Tryz.prog 182 = true := by kernel_rfl
@[simp] theorem un182 : Tryz.prog.underlying 182 = some (.slice 184) := by kernel_rfl
@[simp] theorem st182 : slT Tryz.prog 182 = true := by kernel_rfl
@[simp] theorem ai182 : apInfo Tryz.prog 182 = some (184, 24, 2, true) := by kernel_rfl
@[simp] theorem sz183 : sizeT Tryz.prog 183 = 2 := by kernel_rfl
@[simp] theorem ag183 : isAggT Tryz.prog 183 = some true := by kernel_rfl
@[simp] theorem zc183 : zcells Tryz.prog 183 = some [(.str ByteArray.empty, false), (.int .i64 0, false)] := by kernel_rfl
@[simp] theorem zt183 : zeroT Tryz.prog 183 = true := by kernel_rfl
@[simp] theorem fa183_0 (x : AVal) : afield Tryz.prog 183 x 0 = ashift 0 x := by kernel_rfl
@[simp] theorem fv183_0 (cs : List AVal) : afieldv Tryz.prog 183 (.agg cs) 0 = cs[0]? := by kernel_rfl
@[simp] theorem fa183_1 (x : AVal) : afield Tryz.prog 183 x 1 = ashift 1 x := by kernel_rfl
@[simp] theorem fv183_1 (cs : List AVal) : afieldv Tryz.prog 183 (.agg cs) 1 = cs[1]? := by kernel_rfl
@[simp] theorem bd183 (nl : Bool) (ps : List (Nat × AVal)) : abuild Tryz.prog nl 183 ps = afillL [(0, 1), (1, 1)] (if nl then [.str ByteArray.empty, .int .i64 0] else [.str ByteArray.empty, .int .i64 0]) ps := by cases nl <;> kernel_rfl
@[simp] theorem sz184 : sizeT Tryz.prog 184 = 2 := by kernel_rfl
@[simp] theorem ag184 : isAggT Tryz.prog 184 = some true := by kernel_rfl
@[simp] theorem zc184 : zcells Tryz.prog 184 = some [(.str ByteArray.empty, false), (.int .i64 0, false)] := by kernel_rfl
@[simp] theorem zt184 : zeroT Tryz.prog 184 = true := by kernel_rfl
@[simp] theorem fa184_0 (x : AVal) : afield Tryz.prog 184 x 0 = ashift 0 x := by kernel_rfl
@[simp] theorem fv184_0 (cs : List AVal) : afieldv Tryz.prog 184 (.agg cs) 0 = cs[0]? := by kernel_rfl
@[simp] theorem fa184_1 (x : AVal) : afield Tryz.prog 184 x 1 = ashift 1 x := by kernel_rfl
@[simp] theorem fv184_1 (cs : List AVal) : afieldv Tryz.prog 184 (.agg cs) 1 = cs[1]? := by kernel_rfl
@[simp] theorem bd184 (nl : Bool) (ps : List (Nat × AVal)) : abuild Tryz.prog nl 184 ps = afillL [(0, 1), (1, 1)] (if nl then [.str ByteArray.empty, .int .i64 0] else [.str ByteArray.empty, .int .i64 0]) ps := by cases nl <;> kernel_rfl
@[simp] theorem sz185 : sizeT Tryz.prog 185 = 1 := by kernel_rfl
@[simp] theorem ag185 : isAggT Tryz.prog 185 = some false := by kernel_rfl
@[simp] theorem zc185 : zcells Tryz.prog 185 = some [(.nilf, false)] := by kernel_rfl
@[simp] theorem zt185 : zeroT Tryz.prog 185 = true := by kernel_rfl
@[simp] theorem sz186 : sizeT Tryz.prog 186 = 1 := by kernel_rfl
@[simp] theorem ag186 : isAggT Tryz.prog 186 = some false := by kernel_rfl
@[simp] theorem zc186 : zcells Tryz.prog 186 = some [(.nilf, false)] := by kernel_rfl
@[simp] theorem zt186 : zeroT Tryz.prog 186 = true := by kernel_rfl
@[simp] theorem sz187 : sizeT Tryz.prog 187 = 1 := by kernel_rfl
@[simp] theorem ag187 : isAggT Tryz.prog 187 = some false := by kernel_rfl
@[simp] theorem zc187 : zcells Tryz.prog 187 = some [(.nilp, false)] := by kernel_rfl
@[simp] theorem zt187 : zeroT Tryz.prog 187 = true := by kernel_rfl
@[simp] theorem sz188 : sizeT Tryz.prog 188 = 2 := by kernel_rfl
@[simp] theorem ag188 : isAggT Tryz.prog 188 = some true := by kernel_rfl
@[simp] theorem zc188 : zcells Tryz.prog 188 = some [(.int .i64 0, false), (.int .i64 0, false)] := by kernel_rfl
@[simp] theorem zt188 : zeroT Tryz.prog 188 = true := by kernel_rfl
@[simp] theorem fa188_0 (x : AVal) : afield Tryz.prog 188 x 0 = ashift 0 x := by kernel_rfl
@[simp] theorem fv188_0 (cs : List AVal) : afieldv Tryz.prog 188 (.agg cs) 0 = cs[0]? := by kernel_rfl
@[simp] theorem fa188_1 (x : AVal) : afield Tryz.prog 188 x 1 = ashift 1 x := by kernel_rfl
@[simp] theorem fv188_1 (cs : List AVal) : afieldv Tryz.prog 188 (.agg cs) 1 = cs[1]? := by kernel_rfl
@[simp] theorem bd188 (nl : Bool) (ps : List (Nat × AVal)) : abuild Tryz.prog nl 188 ps = afillL [(0, 1), (1, 1)] (if nl then [.int .i64 0, .int .i64 0] else [.int .i64 0, .int .i64 0]) ps := by cases nl <;> kernel_rfl
@[simp] theorem sz189 : sizeT Tryz.prog 189 = 2 := by kernel_rfl
@[simp] theorem ag189 : isAggT Tryz.prog 189 = some true := by kernel_rfl
@[simp] theorem zc189 : zcells Tryz.prog 189 = some [(.int .i64 0, false), (.int .i64 0, false)] := by kernel_rfl
@[simp] theorem zt189 : zeroT Tryz.prog 189 = true := by kernel_rfl
@[simp] theorem fa189_0 (x : AVal) : afield Tryz.prog 189 x 0 = ashift 0 x := by kernel_rfl
@[simp] theorem fv189_0 (cs : List AVal) : afieldv Tryz.prog 189 (.agg cs) 0 = cs[0]? := by kernel_rfl
@[simp] theorem fa189_1 (x : AVal) : afield Tryz.prog 189 x 1 = ashift 1 x := by kernel_rfl
@[simp] theorem fv189_1 (cs : List AVal) : afieldv Tryz.prog 189 (.agg cs) 1 = cs[1]? := by kernel_rfl
@[simp] theorem bd189 (nl : Bool) (ps : List (Nat × AVal)) : abuild Tryz.prog nl 189 ps = afillL [(0, 1), (1, 1)] (if nl then [.int .i64 0, .int .i64 0] else [.int .i64 0, .int .i64 0]) ps := by cases nl <;> kernel_rfl
@[simp] theorem sz190 : sizeT Tryz.prog 190 = 1 := by kernel_rfl
@[simp] theorem ag190 : isAggT Tryz.prog 190 = some false := by kernel_rfl
@[simp] theorem zc190 : zcells Tryz.prog 190 = some [(.nilf, false)] := by kernel_rfl
@[simp] theorem zt190 : zeroT Tryz.prog 190 = true := by kernel_rfl
@[simp] theorem sz191 : sizeT Tryz.prog 191 = 1 := by kernel_rfl
@[simp] theorem ag191 : isAggT Tryz.prog 191 = some false := by kernel_rfl
@[simp] theorem zc191 : zcells Tryz.prog 191 = some [(.nilf, false)] := by kernel_rfl
@[simp] theorem zt191 : zeroT Tryz.prog 191 = true := by kernel_rfl
@[simp] theorem sz192 : sizeT Tryz.prog 192 = 1 := by kernel_rfl
@[simp] theorem ag192 : isAggT Tryz.prog 192 = some false := by kernel_rfl
@[simp] theorem zc192 : zcells Tryz.prog 192 = some [(.nilf, false)] := by kernel_rfl
@[simp] theorem zt192 : zeroT Tryz.prog 192 = true := by kernel_rfl
@[simp] theorem sz193 : sizeT Tryz.prog 193 = 1 := by kernel_rfl
@[simp] theorem ag193 : isAggT Tryz.prog 193 = some false := by kernel_rfl
@[simp] theorem zc193 : zcells Tryz.prog 193 = some [(.nilf, false)] := by kernel_rfl
@[simp] theorem zt193 : zeroT Tryz.prog 193 = true := by kernel_rfl
@[simp] theorem sz197 : sizeT Tryz.prog 197 = 1 := by kernel_rfl
@[simp] theorem ag197 : isAggT Tryz.prog 197 = some false := by kernel_rfl
@[simp] theorem zc197 : zcells Tryz.prog 197 = some [(.nilf, false)] := by kernel_rfl
@[simp] theorem zt197 : zeroT Tryz.prog 197 = true := by kernel_rfl
@[simp] theorem sz198 : sizeT Tryz.prog 198 = 1 := by kernel_rfl
@[simp] theorem ag198 : isAggT Tryz.prog 198 = some false := by kernel_rfl
@[simp] theorem zc198 : zcells Tryz.prog 198 = some [(.nilf, false)] := by kernel_rfl
@[simp] theorem zt198 : zeroT Tryz.prog 198 = true := by kernel_rfl
@[simp] theorem sz199 : sizeT Tryz.prog 199 = 1 := by kernel_rfl
@[simp] theorem ag199 : isAggT Tryz.prog 199 = some false := by kernel_rfl
@[simp] theorem zc199 : zcells Tryz.prog 199 = some [(.nilf, false)] := by kernel_rfl
@[simp] theorem zt199 : zeroT Tryz.prog 199 = true := by kernel_rfl
@[simp] theorem sz200 : sizeT Tryz.prog 200 = 1 := by kernel_rfl
@[simp] theorem ag200 : isAggT Tryz.prog 200 = some false := by kernel_rfl
@[simp] theorem zc200 : zcells Tryz.prog 200 = some [(.nilf, false)] := by kernel_rfl
@[simp] theorem zt200 : zeroT Tryz.prog 200 = true := by kernel_rfl
@[simp] theorem sz201 : sizeT Tryz.prog 201 = 1 := by kernel_rfl
@[simp] theorem ag201 : isAggT Tryz.prog 201 = some false := by kernel_rfl
@[simp] theorem zc201 : zcells Tryz.prog 201 = some [(.nilf, false)] := by kernel_rfl
@[simp] theorem zt201 : zeroT Tryz.prog 201 = true := by kernel_rfl
@[simp] theorem sz202 : sizeT Tryz.prog 202 = 1 := by kernel_rfl
@[simp] theorem ag202 : isAggT Tryz.prog 202 = some false := by kernel_rfl
@[simp] theorem zc202 : zcells Tryz.prog 202 = some [(.nilf, false)] := by kernel_rfl
@[simp] theorem zt202 : zeroT Tryz.prog 202 = true := by kernel_rfl
@[simp] theorem sz203 : sizeT Tryz.prog 203 = 1 := by kernel_rfl
@[simp] theorem ag203 : isAggT Tryz.prog 203 = some false := by kernel_rfl
@[simp] theorem zc203 : zcells Tryz.prog 203 = some [(.nilf, false)] := by kernel_rfl
@[simp] theorem zt203 : zeroT Tryz.prog 203 = true := by kernel_rfl
@[simp] theorem sz204 : sizeT Tryz.prog 204 = 1 := by kernel_rfl
@[simp] theorem ag204 : isAggT Tryz.prog 204 = some false := by kernel_rfl
@[simp] theorem zc204 : zcells Tryz.prog 204 = some [(.int .u64 0, false)] := by kernel_rfl
@[simp] theorem zt204 : zeroT Tryz.prog 204 = true := by kernel_rfl
@[simp] theorem sz206 : sizeT Tryz.prog 206 = 1 := by kernel_rfl
@[simp] theorem ag206 : isAggT Tryz.prog 206 = some false := by kernel_rfl
@[simp] theorem zc206 : zcells Tryz.prog 206 = some [(.nilf, false)] := by kernel_rfl
@[simp] theorem zt206 : zeroT Tryz.prog 206 = true := by kernel_rfl
@[simp] theorem sz207 : sizeT Tryz.prog 207 = 1 := by kernel_rfl
@[simp] theorem ag207 : isAggT Tryz.prog 207 = some false := by kernel_rfl
@[simp] theorem zc207 : zcells Tryz.prog 207 = some [(.nilf, false)] := by kernel_rfl
@[simp] theorem zt207 : zeroT Tryz.prog 207 = true := by kernel_rfl
@[simp] theorem sz208 : sizeT Tryz.prog 208 = 1 := by kernel_rfl
@[simp] theorem ag208 : isAggT Tryz.prog 208 = some false := by kernel_rfl
@[simp] theorem zc208 : zcells Tryz.prog 208 = some [(.nilf, false)] := by kernel_rfl
@[simp] theorem zt208 : zeroT Tryz.prog 208 = true := by kernel_rfl
@[simp] theorem sz209 : sizeT Tryz.prog 209 = 1 := by kernel_rfl
@[simp] theorem ag209 : isAggT Tryz.prog 209 = some false := by kernel_rfl
@[simp] theorem zc209 : zcells Tryz.prog 209 = some [(.nilf, false)] := by kernel_rfl
@[simp] theorem zt209 : zeroT Tryz.prog 209 = true := by kernel_rfl
@[simp] theorem sz210 : sizeT Tryz.prog 210 = 1 := by kernel_rfl
@[simp] theorem ag210 : isAggT Tryz.prog 210 = some false := by kernel_rfl
@[simp] theorem zc210 : zcells Tryz.prog 210 = some [(.nilf, false)] := by kernel_rfl
@[simp] theorem zt210 : zeroT Tryz.prog 210 = true := by kernel_rfl
@[simp] theorem sz211 : sizeT Tryz.prog 211 = 1 := by kernel_rfl
@[simp] theorem ag211 : isAggT Tryz.prog 211 = some false := by kernel_rfl
@[simp] theorem zc211 : zcells Tryz.prog 211 = some [(.nilf, false)] := by kernel_rfl
@[simp] theorem zt211 : zeroT Tryz.prog 211 = true := by kernel_rfl
@[simp] theorem sz212 : sizeT Tryz.prog 212 = 1 := by kernel_rfl
@[simp] theorem ag212 : isAggT Tryz.prog 212 = some false := by kernel_rfl
@[simp] theorem zc212 : zcells Tryz.prog 212 = some [(.nilf, false)] := by kernel_rfl
@[simp] theorem zt212 : zeroT Tryz.prog 212 = true := by kernel_rfl
@[simp] theorem sz213 : sizeT Tryz.prog 213 = 1 := by kernel_rfl
@[simp] theorem ag213 : isAggT Tryz.prog 213 = some false := by kernel_rfl
@[simp] theorem zc213 : zcells Tryz.prog 213 = some [(.nilf, false)] := by kernel_rfl
@[simp] theorem zt213 : zeroT Tryz.prog 213 = true := by kernel_rfl
@[simp] theorem sz214 : sizeT Tryz.prog 214 = 1 := by kernel_rfl
@[simp] theorem ag214 : isAggT Tryz.prog 214 = some false := by kernel_rfl
@[simp] theorem zc214 : zcells Tryz.prog 214 = some [(.nilf, false)] := by kernel_rfl
@[simp] theorem zt214 : zeroT Tryz.prog 214 = true := by kernel_rfl
@[simp] theorem sz215 : sizeT Tryz.prog 215 = 1 := by kernel_rfl
@[simp] theorem ag215 : isAggT Tryz.prog 215 = some false := by kernel_rfl
@[simp] theorem zc215 : zcells Tryz.prog 215 = some [(.nilf, false)] := by kernel_rfl
@[simp] theorem zt215 : zeroT Tryz.prog 215 = true := by kernel_rfl
@[simp] theorem sz216 : sizeT Tryz.prog 216 = 1 := by kernel_rfl
@[simp] theorem ag216 : isAggT Tryz.prog 216 = some false := by kernel_rfl
@[simp] theorem zc216 : zcells Tryz.prog 216 = some [(.nilf, false)] := by kernel_rfl
@[simp] theorem zt216 : zeroT Tryz.prog 216 = true := by kernel_rfl
@[simp] theorem sz217 : sizeT Tryz.prog 217 = 1 := by kernel_rfl
@[simp] theorem ag217 : isAggT Tryz.prog 217 = some false := by kernel_rfl
@[simp] theorem zc217 : zcells Tryz.prog 217 = some [(.nilf, false)] := by kernel_rfl
@[simp] theorem zt217 : zeroT Tryz.prog 217 = true := by kernel_rfl
@[simp] theorem sz218 : sizeT Tryz.prog 218 = 1 := by kernel_rfl
@[simp] theorem ag218 : isAggT Tryz.prog 218 = some false := by kernel_rfl
@[simp] theorem zc218 : zcells Tryz.prog 218 = some [(.nilf, false)] := by kernel_rfl
@[simp] theorem zt218 : zeroT Tryz.prog 218 = true := by kernel_rfl
@[simp] theorem sz219 : sizeT Tryz.prog 219 = 1 := by kernel_rfl
@[simp] theorem ag219 : isAggT Tryz.prog 219 = some false := by kernel_rfl
@[simp] theorem zc219 : zcells Tryz.prog 219 = some [(.nilf, false)] := by kernel_rfl
@[simp] theorem zt219 : zeroT Tryz.prog 219 = true := by kernel_rfl
@[simp] theorem sz220 : sizeT Tryz.prog 220 = 1 := by kernel_rfl
@[simp] theorem ag220 : isAggT Tryz.prog 220 = some false := by kernel_rfl
@[simp] theorem zc220 : zcells Tryz.prog 220 = some [(.lst [], true)] := by kernel_rfl
@[simp] theorem zt220 : zeroT Tryz.prog 220 = true := by kernel_rfl
@[simp] theorem un220 : Tryz.prog.underlying 220 = some (.slice 219) := by kernel_rfl
@[simp] theorem st220 : slT Tryz.prog 220 = true := by kernel_rfl
@[simp] theorem ai220 : apInfo Tryz.prog 220 = some (219, 8, 1, false) := by kernel_rfl
@[simp] theorem sz221 : sizeT Tryz.prog 221 = 1 := by kernel_rfl
@[simp] theorem ag221 : isAggT Tryz.prog 221 = some false := by kernel_rfl
@[simp] theorem zc221 : zcells Tryz.prog 221 = some [(.nilf, false)] := by kernel_rfl
@[simp] theorem zt221 : zeroT Tryz.prog 221 = true := by kernel_rfl
@[simp] theorem sz222 : sizeT Tryz.prog 222 = 1 := by kernel_rfl
@[simp] theorem ag222 : isAggT Tryz.prog 222 = some false := by kernel_rfl
@[simp] theorem zc222 : zcells Tryz.prog 222 = some [(.nilf, false)] := by kernel_rfl
@[simp] theorem zt222 : zeroT Tryz.prog 222 = true := by kernel_rfl
@[simp] theorem sz223 : sizeT Tryz.prog 223 = 1 := by kernel_rfl
@[simp] theorem ag223 : isAggT Tryz.prog 223 = some false := by kernel_rfl
@[simp] theorem zc223 : zcells Tryz.prog 223 = some [(.nilf, false)] := by kernel_rfl
@[simp] theorem zt223 : zeroT Tryz.prog 223 = true := by kernel_rfl
@[simp] theorem sz224 : sizeT Tryz.prog 224 = 1 := by kernel_rfl
@[simp] theorem ag224 : isAggT Tryz.prog 224 = some false := by kernel_rfl
@[simp] theorem zc224 : zcells Tryz.prog 224 = some [(.nilf, false)] := by kernel_rfl
@[simp] theorem zt224 : zeroT Tryz.prog 224 = true := by kernel_rfl
@[simp] theorem sz225 : sizeT Tryz.prog 225 = 1 := by kernel_rfl
@[simp] theorem ag225 : isAggT Tryz.prog 225 = some false := by kernel_rfl
@[simp] theorem zc225 : zcells Tryz.prog 225 = some [(.nilf, false)] := by kernel_rfl
@[simp] theorem zt225 : zeroT Tryz.prog 225 = true := by kernel_rfl
@[simp] theorem sz226 : sizeT Tryz.prog 226 = 4 := by kernel_rfl
@[simp] theorem ag226 : isAggT Tryz.prog 226 = some true := by kernel_rfl
@[simp] theorem zc226 : zcells Tryz.prog 226 = some [(.str ByteArray.empty, false), (.int .i64 0, false), (.int .i64 0, false), (.int .i64 0, false)] := by kernel_rfl
@[simp] theorem zt226 : zeroT Tryz.prog 226 = true := by kernel_rfl
@[simp] theorem fa226_0 (x : AVal) : afield Tryz.prog 226 x 0 = ashift 0 x := by kernel_rfl
@[simp] theorem fv226_0 (cs : List AVal) : afieldv Tryz.prog 226 (.agg cs) 0 = cs[0]? := by kernel_rfl
@[simp] theorem fa226_1 (x : AVal) : afield Tryz.prog 226 x 1 = ashift 1 x := by kernel_rfl
@[simp] theorem fv226_1 (cs : List AVal) : afieldv Tryz.prog 226 (.agg cs) 1 = cs[1]? := by kernel_rfl
@[simp] theorem fa226_2 (x : AVal) : afield Tryz.prog 226 x 2 = ashift 2 x := by kernel_rfl
@[simp] theorem fv226_2 (cs : List AVal) : afieldv Tryz.prog 226 (.agg cs) 2 = cs[2]? := by kernel_rfl
@[simp] theorem fa226_3 (x : AVal) : afield Tryz.prog 226 x 3 = ashift 3 x := by kernel_rfl
@[simp] theorem fv226_3 (cs : List AVal) : afieldv Tryz.prog 226 (.agg cs) 3 = cs[3]? := by kernel_rfl
@[simp] theorem bd226 (nl : Bool) (ps : List (Nat × AVal)) : abuild Tryz.prog nl 226 ps = afillL [(0, 1), (1, 1), (2, 1), (3, 1)] (if nl then [.str ByteArray.empty, .int .i64 0, .int .i64 0, .int .i64 0] else [.str ByteArray.empty, .int .i64 0, .int .i64 0, .int .i64 0]) ps := by cases nl <;> kernel_rfl
@[simp] theorem sz227 : sizeT Tryz.prog 227 = 4 := by kernel_rfl
@[simp] theorem ag227 : isAggT Tryz.prog 227 = some true := by kernel_rfl
@[simp] theorem zc227 : zcells Tryz.prog 227 = some [(.str ByteArray.empty, false), (.int .i64 0, false), (.int .i64 0, false), (.int .i64 0, false)] := by kernel_rfl
@[simp] theorem zt227 : zeroT Tryz.prog 227 = true := by kernel_rfl
@[simp] theorem fa227_0 (x : AVal) : afield Tryz.prog 227 x 0 = ashift 0 x := by kernel_rfl
@[simp] theorem fv227_0 (cs : List AVal) : afieldv Tryz.prog 227 (.agg cs) 0 = cs[0]? := by kernel_rfl
@[simp] theorem fa227_1 (x : AVal) : afield Tryz.prog 227 x 1 = ashift 1 x := by kernel_rfl
@[simp] theorem fv227_1 (cs : List AVal) : afieldv Tryz.prog 227 (.agg cs) 1 = cs[1]? := by kernel_rfl
@[simp] theorem fa227_2 (x : AVal) : afield Tryz.prog 227 x 2 = ashift 2 x := by kernel_rfl
@[simp] theorem fv227_2 (cs : List AVal) : afieldv Tryz.prog 227 (.agg cs) 2 = cs[2]? := by kernel_rfl
@[simp] theorem fa227_3 (x : AVal) : afield Tryz.prog 227 x 3 = ashift 3 x := by kernel_rfl
@[simp] theorem fv227_3 (cs : List AVal) : afieldv Tryz.prog 227 (.agg cs) 3 = cs[3]? := by kernel_rfl
@[simp] theorem bd227 (nl : Bool) (ps : List (Nat × AVal)) : abuild Tryz.prog nl 227 ps = afillL [(0, 1), (1, 1), (2, 1), (3, 1)] (if nl then [.str ByteArray.empty, .int .i64 0, .int .i64 0, .int .i64 0] else [.str ByteArray.empty, .int .i64 0, .int .i64 0, .int .i64 0]) ps := by cases nl <;> kernel_rfl
@[simp] theorem sz228 : sizeT Tryz.prog 228 = 1 := by kernel_rfl
@[simp] theorem ag228 : isAggT Tryz.prog 228 = some false := by kernel_rfl
@[simp] theorem zc228 : zcells Tryz.prog 228 = some [(.nilf, false)] := by kernel_rfl
@[simp] theorem zt228 : zeroT Tryz.prog 228 = true := by kernel_rfl
@[simp] theorem sz229 : sizeT Tryz.prog 229 = 1 := by kernel_rfl
@[simp] theorem ag229 : isAggT Tryz.prog 229 = some false := by kernel_rfl
@[simp] theorem zc229 : zcells Tryz.prog 229 = some [(.nilp, false)] := by kernel_rfl
@[simp] theorem zt229 : zeroT Tryz.prog 229 = true := by kernel_rfl
@[simp] theorem sz230 : sizeT Tryz.prog 230 = 1 := by kernel_rfl
@[simp] theorem ag230 : isAggT Tryz.prog 230 = some false := by kernel_rfl
@[simp] theorem zc230 : zcells Tryz.prog 230 = some [(.nilm, false)] := by kernel_rfl
@[simp] theorem zt230 : zeroT Tryz.prog 230 = true := by kernel_rfl
@[simp] theorem un230 : Tryz.prog.underlying 230 = some (.map 3 9) := by kernel_rfl
@[simp] theorem sz231 : sizeT Tryz.prog 231 = 1 := by kernel_rfl
@[simp] theorem ag231 : isAggT Tryz.prog 231 = some false := by kernel_rfl
@[simp] theorem zc231 : zcells Tryz.prog 231 = some [(.nilf, false)] := by kernel_rfl
@[simp] theorem zt231 : zeroT Tryz.prog 231 = true := by kernel_rfl
@[simp] theorem sz232 : sizeT Tryz.prog 232 = 3 := by kernel_rfl
@[simp] theorem ag232 : isAggT Tryz.prog 232 = some true := by kernel_rfl
@[simp] theorem zc232 : zcells Tryz.prog 232 = some [(.str ByteArray.empty, false), (.int .i64 0, false), (.int .i64 0, false)] := by kernel_rfl
@[simp] theorem zt232 : zeroT Tryz.prog 232 = true := by kernel_rfl
@[simp] theorem fa232_0 (x : AVal) : afield Tryz.prog 232 x 0 = ashift 0 x := by kernel_rfl
@[simp] theorem fv232_0 (cs : List AVal) : afieldv Tryz.prog 232 (.agg cs) 0 = cs[0]? := by kernel_rfl
@[simp] theorem fa232_1 (x : AVal) : afield Tryz.prog 232 x 1 = ashift 1 x := by kernel_rfl
@[simp] theorem fv232_1 (cs : List AVal) : afieldv Tryz.prog 232 (.agg cs) 1 = cs[1]? := by kernel_rfl
@[simp] theorem fa232_2 (x : AVal) : afield Tryz.prog 232 x 2 = ashift 2 x := by kernel_rfl
@[simp] theorem fv232_2 (cs : List AVal) : afieldv Tryz.prog 232 (.agg cs) 2 = cs[2]? := by kernel_rfl
@[simp] theorem bd232 (nl : Bool) (ps : List (Nat × AVal)) : abuild Tryz.prog nl 232 ps = afillL [(0, 1), (1, 1), (2, 1)] (if nl then [.str ByteArray.empty, .int .i64 0, .int .i64 0] else [.str ByteArray.empty, .int .i64 0, .int .i64 0]) ps := by cases nl <;> kernel_rfl
@[simp] theorem sz233 : sizeT Tryz.prog 233 = 3 := by kernel_rfl
@[simp] theorem ag233 : isAggT Tryz.prog 233 = some true := by kernel_rfl
@[simp] theorem zc233 : zcells Tryz.prog 233 = some [(.str ByteArray.empty, false), (.int .i64 0, false), (.int .i64 0, false)] := by kernel_rfl
@[simp] theorem zt233 : zeroT Tryz.prog 233 = true := by kernel_rfl
@[simp] theorem fa233_0 (x : AVal) : afield Tryz.prog 233 x 0 = ashift 0 x := by kernel_rfl
@[simp] theorem fv233_0 (cs : List AVal) : afieldv Tryz.prog 233 (.agg cs) 0 = cs[0]? := by kernel_rfl
@[simp] theorem fa233_1 (x : AVal) : afield Tryz.prog 233 x 1 = ashift 1 x := by kernel_rfl
@[simp] theorem fv233_1 (cs : List AVal) : afieldv Tryz.prog 233 (.agg cs) 1 = cs[1]? := by kernel_rfl
@[simp] theorem fa233_2 (x : AVal) : afield Tryz.prog 233 x 2 = ashift 2 x := by kernel_rfl
@[simp] theorem fv233_2 (cs : List AVal) : afieldv Tryz.prog 233 (.agg cs) 2 = cs[2]? := by kernel_rfl
@[simp] theorem bd233 (nl : Bool) (ps : List (Nat × AVal)) : abuild Tryz.prog nl 233 ps = afillL [(0, 1), (1, 1), (2, 1)] (if nl then [.str ByteArray.empty, .int .i64 0, .int .i64 0] else [.str ByteArray.empty, .int .i64 0, .int .i64 0]) ps := by cases nl <;> kernel_rfl
@[simp] theorem sz234 : sizeT Tryz.prog 234 = 3 := by kernel_rfl
@[simp] theorem ag234 : isAggT Tryz.prog 234 = some true := by kernel_rfl
@[simp] theorem zc234 : zcells Tryz.prog 234 = some [(.int .i64 0, false), (.str ByteArray.empty, false), (.int .i64 0, false)] := by kernel_rfl
@[simp] theorem zt234 : zeroT Tryz.prog 234 = true := by kernel_rfl
@[simp] theorem fa234_0 (x : AVal) : afield Tryz.prog 234 x 0 = ashift 0 x := by kernel_rfl
@[simp] theorem fv234_0 (cs : List AVal) : afieldv Tryz.prog 234 (.agg cs) 0 = cs[0]? := by kernel_rfl
@[simp] theorem fa234_1 (x : AVal) : afield Tryz.prog 234 x 1 = ashift 1 x := by kernel_rfl
@[simp] theorem fv234_1 (cs : List AVal) : afieldv Tryz.prog 234 (.agg cs) 1 = cs[1]? := by kernel_rfl
@[simp] theorem fa234_2 (x : AVal) : afield Tryz.prog 234 x 2 = ashift 2 x := by kernel_rfl
@[simp] theorem fv234_2 (cs : List AVal) : afieldv Tryz.prog 234 (.agg cs) 2 = cs[2]? := by kernel_rfl
@[simp] theorem bd234 (nl : Bool) (ps : List (Nat × AVal)) : abuild Tryz.prog nl 234 ps = afillL [(0, 1), (1, 1), (2, 1)] (if nl then [.int .i64 0, .str ByteArray.empty, .int .i64 0] else [.int .i64 0, .str ByteArray.empty, .int .i64 0]) ps := by cases nl <;> kernel_rfl
@[simp] theorem sz235 : sizeT Tryz.prog 235 = 3 := by kernel_rfl
@[simp] theorem ag235 : isAggT Tryz.prog 235 = some true := by kernel_rfl
@[simp] theorem zc235 : zcells Tryz.prog 235 = some [(.int .i64 0, false), (.str ByteArray.empty, false), (.int .i64 0, false)] := by kernel_rfl
@[simp] theorem zt235 : zeroT Tryz.prog 235 = true := by kernel_rfl
@[simp] theorem fa235_0 (x : AVal) : afield Tryz.prog 235 x 0 = ashift 0 x := by kernel_rfl
@[simp] theorem fv235_0 (cs : List AVal) : afieldv Tryz.prog 235 (.agg cs) 0 = cs[0]? := by kernel_rfl
@[simp] theorem fa235_1 (x : AVal) : afield Tryz.prog 235 x 1 = ashift 1 x := by kernel_rfl
@[simp] theorem fv235_1 (cs : List AVal) : afieldv Tryz.prog 235 (.agg cs) 1 = cs[1]? := by kernel_rfl
@[simp] theorem fa235_2 (x : AVal) : afield Tryz.prog 235 x 2 = ashift 2 x := by kernel_rfl
@[simp] theorem fv235_2 (cs : List AVal) : afieldv Tryz.prog 235 (.agg cs) 2 = cs[2]? := by kernel_rfl
@[simp] theorem bd235 (nl : Bool) (ps : List (Nat × AVal)) : abuild Tryz.prog nl 235 ps = afillL [(0, 1), (1, 1), (2, 1)] (if nl then [.int .i64 0, .str ByteArray.empty, .int .i64 0] else [.int .i64 0, .str ByteArray.empty, .int .i64 0]) ps := by cases nl <;> kernel_rfl
@[simp] theorem sz236 : sizeT Tryz.prog 236 = 9 := by kernel_rfl
@[simp] theorem ag236 : isAggT Tryz.prog 236 = some true := by kernel_rfl
@[simp] theorem zc236 : zcells Tryz.prog 236 = some [(.str ByteArray.empty, false), (.int .i64 0, false), (.int .i64 0, false), (.int .i64 0, false), (.str ByteArray.empty, false), (.int .i64 0, false), (.int .i64 0, false), (.bool false, false), (.int .i64 0, false)] := by kernel_rfl
@[simp] theorem zt236 : zeroT Tryz.prog 236 = true := by kernel_rfl
@[simp] theorem fa236_0 (x : AVal) : afield Tryz.prog 236 x 0 = ashift 0 x := by kernel_rfl
@[simp] theorem fv236_0 (cs : List AVal) : afieldv Tryz.prog 236 (.agg cs) 0 = if 0 + 3 ≤ cs.length then some (.agg ((cs.drop 0).take 3)) else none := by kernel_rfl
@[simp] theorem fa236_1 (x : AVal) : afield Tryz.prog 236 x 1 = ashift 3 x := by kernel_rfl
@[simp] theorem fv236_1 (cs : List AVal) : afieldv Tryz.prog 236 (.agg cs) 1 = if 3 + 3 ≤ cs.length then some (.agg ((cs.drop 3).take 3)) else none := by kernel_rfl
@[simp] theorem fa236_2 (x : AVal) : afield Tryz.prog 236 x 2 = ashift 6 x := by kernel_rfl
@[simp] theorem fv236_2 (cs : List AVal) : afieldv Tryz.prog 236 (.agg cs) 2 = cs[6]? := by kernel_rfl
@[simp] theorem fa236_3 (x : AVal) : afield Tryz.prog 236 x 3 = ashift 7 x := by kernel_rfl
@[simp] theorem fv236_3 (cs : List AVal) : afieldv Tryz.prog 236 (.agg cs) 3 = cs[7]? := by kernel_rfl
@[simp] theorem fa236_4 (x : AVal) : afield Tryz.prog 236 x 4 = ashift 8 x := by kernel_rfl
@[simp] theorem fv236_4 (cs : List AVal) : afieldv Tryz.prog 236 (.agg cs) 4 = cs[8]? := by kernel_rfl
@[simp] theorem bd236 (nl : Bool) (ps : List (Nat × AVal)) : abuild Tryz.prog nl 236 ps = afillL [(0, 3), (3, 3), (6, 1), (7, 1), (8, 1)] (if nl then [.str ByteArray.empty, .int .i64 0, .int .i64 0, .int .i64 0, .str ByteArray.empty, .int .i64 0, .int .i64 0, .bool false, .int .i64 0] else [.str ByteArray.empty, .int .i64 0, .int .i64 0, .int .i64 0, .str ByteArray.empty, .int .i64 0, .int .i64 0, .bool false, .int .i64 0]) ps := by cases nl <;> kernel_rfl
@[simp] theorem sz237 : sizeT Tryz.prog 237 = 9 := by kernel_rfl
@[simp] theorem ag237 : isAggT Tryz.prog 237 = some true := by kernel_rfl
@[simp] theorem zc237 : zcells Tryz.prog 237 = some [(.str ByteArray.empty, false), (.int .i64 0, false), (.int .i64 0, false), (.int .i64 0, false), (.str ByteArray.empty, false), (.int .i64 0, false), (.int .i64 0, false), (.bool false, false), (.int .i64 0, false)] := by kernel_rfl
@[simp] theorem zt237 : zeroT Tryz.prog 237 = true := by kernel_rfl
@[simp] theorem fa237_0 (x : AVal) : afield Tryz.prog 237 x 0 = ashift 0 x := by kernel_rfl
@[simp] theorem fv237_0 (cs : List AVal) : afieldv Tryz.prog 237 (.agg cs) 0 = if 0 + 3 ≤ cs.length then some (.agg ((cs.drop 0).take 3)) else none := by kernel_rfl
@[simp] theorem fa237_1 (x : AVal) : afield Tryz.prog 237 x 1 = ashift 3 x := by kernel_rfl
@[simp] theorem fv237_1 (cs : List AVal) : afieldv Tryz.prog 237 (.agg cs) 1 = if 3 + 3 ≤ cs.length then some (.agg ((cs.drop 3).take 3)) else none := by kernel_rfl
@[simp] theorem fa237_2 (x : AVal) : afield Tryz.prog 237 x 2 = ashift 6 x := by kernel_rfl
@[simp] theorem fv237_2 (cs : List AVal) : afieldv Tryz.prog 237 (.agg cs) 2 = cs[6]? := by kernel_rfl
@[simp] theorem fa237_3 (x : AVal) : afield Tryz.prog 237 x 3 = ashift 7 x := by kernel_rfl
@[simp] theorem fv237_3 (cs : List AVal) : afieldv Tryz.prog 237 (.agg cs) 3 = cs[7]? := by kernel_rfl
@[simp] theorem fa237_4 (x : AVal) : afield Tryz.prog 237 x 4 = ashift 8 x := by kernel_rfl
@[simp] theorem fv237_4 (cs : List AVal) : afieldv Tryz.prog 237 (.agg cs) 4 = cs[8]? := by kernel_rfl
@[simp] theorem bd237 (nl : Bool) (ps : List (Nat × AVal)) : abuild Tryz.prog nl 237 ps = afillL [(0, 3), (3, 3), (6, 1), (7, 1), (8, 1)] (if nl then [.str ByteArray.empty, .int .i64 0, .int .i64 0, .int .i64 0, .str ByteArray.empty, .int .i64 0, .int .i64 0, .bool false, .int .i64 0] else [.str ByteArray.empty, .int .i64 0, .int .i64 0, .int .i64 0, .str ByteArray.empty, .int .i64 0, .int .i64 0, .bool false, .int .i64 0]) ps := by cases nl <;> kernel_rfl
@[simp] theorem sz238 : sizeT Tryz.prog 238 = 1 := by kernel_rfl
@[simp] theorem ag238 : isAggT Tryz.prog 238 = some false := by kernel_rfl
@[simp] theorem zc238 : zcells Tryz.prog 238 = some [(.nilf, false)] := by kernel_rfl
@[simp] theorem zt238 : zeroT Tryz.prog 238 = true := by kernel_rfl
@[simp] theorem sz239 : sizeT Tryz.prog 239 = 1 := by kernel_rfl
@[simp] theorem ag239 : isAggT Tryz.prog 239 = some false := by kernel_rfl
@[simp] theorem zc239 : zcells Tryz.prog 239 = some [(.nilf, false)] := by kernel_rfl
@[simp] theorem zt239 : zeroT Tryz.prog 239 = true := by kernel_rfl
@[simp] theorem sz240 : sizeT Tryz.prog 240 = 1 := by kernel_rfl
@[simp] theorem ag240 : isAggT Tryz.prog 240 = some false := by kernel_rfl
@[simp] theorem zc240 : zcells Tryz.prog 240 = some [(.nilf, false)] := by kernel_rfl
@[simp] theorem zt240 : zeroT Tryz.prog 240 = true := by kernel_rfl
@[simp] theorem sz241 : sizeT Tryz.prog 241 = 3 := by kernel_rfl
@[simp] theorem ag241 : isAggT Tryz.prog 241 = some true := by kernel_rfl
@[simp] theorem zc241 : zcells Tryz.prog 241 = some [(.str ByteArray.empty, false), (.str ByteArray.empty, false), (.int .i64 0, false)] := by kernel_rfl
@[simp] theorem zt241 : zeroT Tryz.prog 241 = true := by kernel_rfl
@[simp] theorem fa241_0 (x : AVal) : afield Tryz.prog 241 x 0 = ashift 0 x := by kernel_rfl
@[simp] theorem fv241_0 (cs : List AVal) : afieldv Tryz.prog 241 (.agg cs) 0 = cs[0]? := by kernel_rfl
@[simp] theorem fa241_1 (x : AVal) : afield Tryz.prog 241 x 1 = ashift 1 x := by kernel_rfl
@[simp] theorem fv241_1 (cs : List AVal) : afieldv Tryz.prog 241 (.agg cs) 1 = cs[1]? := by kernel_rfl
@[simp] theorem fa241_2 (x : AVal) : afield Tryz.prog 241 x 2 = ashift 2 x := by kernel_rfl
@[simp] theorem fv241_2 (cs : List AVal) : afieldv Tryz.prog 241 (.agg cs) 2 = cs[2]? := by kernel_rfl
@[simp] theorem bd241 (nl : Bool) (ps : List (Nat × AVal)) : abuild Tryz.prog nl 241 ps = afillL [(0, 1), (1, 1), (2, 1)] (if nl then [.str ByteArray.empty, .str ByteArray.empty, .int .i64 0] else [.str ByteArray.empty, .str ByteArray.empty, .int .i64 0]) ps := by cases nl <;> kernel_rfl
@[simp] theorem sz242 : sizeT Tryz.prog 242 = 3 := by kernel_rfl
@[simp] theorem ag242 : isAggT Tryz.prog 242 = some true := by kernel_rfl
@[simp] theorem zc242 : zcells Tryz.prog 242 = some [(.str ByteArray.empty, false), (.str ByteArray.empty, false), (.int .i64 0, false)] := by kernel_rfl
@[simp] theorem zt242 : zeroT Tryz.prog 242 = true := by kernel_rfl
@[simp] theorem fa242_0 (x : AVal) : afield Tryz.prog 242 x 0 = ashift 0 x := by kernel_rfl
@[simp] theorem fv242_0 (cs : List AVal) : afieldv Tryz.prog 242 (.agg cs) 0 = cs[0]? := by kernel_rfl
@[simp] theorem fa242_1 (x : AVal) : afield Tryz.prog 242 x 1 = ashift 1 x := by kernel_rfl
@[simp] theorem fv242_1 (cs : List AVal) : afieldv Tryz.prog 242 (.agg cs) 1 = cs[1]? := by kernel_rfl
@[simp] theorem fa242_2 (x : AVal) : afield Tryz.prog 242 x 2 = ashift 2 x := by kernel_rfl
@[simp] theorem fv242_2 (cs : List AVal) : afieldv Tryz.prog 242 (.agg cs) 2 = cs[2]? := by kernel_rfl
@[simp] theorem bd242 (nl : Bool) (ps : List (Nat × AVal)) : abuild Tryz.prog nl 242 ps = afillL [(0, 1), (1, 1), (2, 1)] (if nl then [.str ByteArray.empty, .str ByteArray.empty, .int .i64 0] else [.str ByteArray.empty, .str ByteArray.empty, .int .i64 0]) ps := by cases nl <;> kernel_rfl
@[simp] theorem sz244 : sizeT Tryz.prog 244 = 1 := by kernel_rfl
@[simp] theorem ag244 : isAggT Tryz.prog 244 = some false := by kernel_rfl
@[simp] theorem zc244 : zcells Tryz.prog 244 = some [(.nilf, false)] := by kernel_rfl
@[simp] theorem zt244 : zeroT Tryz.prog 244 = true := by kernel_rfl
@[simp] theorem sz245 : sizeT Tryz.prog 245 = 1 := by kernel_rfl
@[simp] theorem ag245 : isAggT Tryz.prog 245 = some false := by kernel_rfl
@[simp] theorem zc245 : zcells Tryz.prog 245 = some [(.nilf, false)] := by kernel_rfl
@[simp] theorem zt245 : zeroT Tryz.prog 245 = true := by kernel_rfl
@[simp] theorem sz246 : sizeT Tryz.prog 246 = 1 := by kernel_rfl
@[simp] theorem ag246 : isAggT Tryz.prog 246 = some false := by kernel_rfl
@[simp] theorem zc246 : zcells Tryz.prog 246 = some [(.lst [], true)] := by kernel_rfl
@[simp] theorem zt246 : zeroT Tryz.prog 246 = true := by kernel_rfl
@[simp] theorem un246 : Tryz.prog.underlying 246 = some (.slice 37) := by kernel_rfl
@[simp] theorem st246 : slT Tryz.prog 246 = true := by kernel_rfl
@[simp] theorem ai246 : apInfo Tryz.prog 246 = some (37, 24, 1, false) := by kernel_rfl
@[simp] theorem sz247 : sizeT Tryz.prog 247 = 1 := by kernel_rfl
@[simp] theorem ag247 : isAggT Tryz.prog 247 = some false := by kernel_rfl
@[simp] theorem zc247 : zcells Tryz.prog 247 = some [(.nilp, false)] := by kernel_rfl
@[simp] theorem zt247 : zeroT Tryz.prog 247 = true := by kernel_rfl
@[simp] theorem sz248 : sizeT Tryz.prog 248 = 1 := by kernel_rfl
@[simp] theorem ag248 : isAggT Tryz.prog 248 = some false := by kernel_rfl
@[simp] theorem zc248 : zcells Tryz.prog 248 = some [(.nilf, false)] := by kernel_rfl
@[simp] theorem zt248 : zeroT Tryz.prog 248 = true := by kernel_rfl
@[simp] theorem sz249 : sizeT Tryz.prog 249 = 1 := by kernel_rfl
@[simp] theorem ag249 : isAggT Tryz.prog 249 = some false := by kernel_rfl
@[simp] theorem zc249 : zcells Tryz.prog 249 = some [(.nilf, false)] := by kernel_rfl
@[simp] theorem zt249 : zeroT Tryz.prog 249 = true := by kernel_rfl
@[simp] theorem sz250 : sizeT Tryz.prog 250 = 1 := by kernel_rfl
@[simp] theorem ag250 : isAggT Tryz.prog 250 = some false := by kernel_rfl
@[simp] theorem zc250 : zcells Tryz.prog 250 = some [(.nilf, false)] := by kernel_rfl
@[simp] theorem zt250 : zeroT Tryz.prog 250 = true := by kernel_rfl
@[simp] theorem sz251 : sizeT Tryz.prog 251 = 1 := by kernel_rfl
@[simp] theorem ag251 : isAggT Tryz.prog 251 = some false := by kernel_rfl
@[simp] theorem zc251 : zcells Tryz.prog 251 = some [(.nilf, false)] := by kernel_rfl
@[simp] theorem zt251 : zeroT Tryz.prog 251 = true := by kernel_rfl
@[simp] theorem sz252 : sizeT Tryz.prog 252 = 1 := by kernel_rfl
@[simp] theorem ag252 : isAggT Tryz.prog 252 = some false := by kernel_rfl
@[simp] theorem zc252 : zcells Tryz.prog 252 = some [(.nilf, false)] := by kernel_rfl
@[simp] theorem zt252 : zeroT Tryz.prog 252 = true := by kernel_rfl
@[simp] theorem sz253 : sizeT Tryz.prog 253 = 1 := by kernel_rfl
@[simp] theorem ag253 : isAggT Tryz.prog 253 = some false := by kernel_rfl
@[simp] theorem zc253 : zcells Tryz.prog 253 = some [(.nilf, false)] := by kernel_rfl
@[simp] theorem zt253 : zeroT Tryz.prog 253 = true := by kernel_rfl
@[simp] theorem sz255 : sizeT Tryz.prog 255 = 1 := by kernel_rfl
@[simp] theorem ag255 : isAggT Tryz.prog 255 = some false := by kernel_rfl
@[simp] theorem zc255 : zcells Tryz.prog 255 = some [(.nilf, false)] := by kernel_rfl
@[simp] theorem zt255 : zeroT Tryz.prog 255 = true := by kernel_rfl
@[simp] theorem sz257 : sizeT Tryz.prog 257 = 1 := by kernel_rfl
@[simp] theorem ag257 : isAggT Tryz.prog 257 = some false := by kernel_rfl
@[simp] theorem zc257 : zcells Tryz.prog 257 = some [(.nilf, false)] := by kernel_rfl
@[simp] theorem zt257 : zeroT Tryz.prog 257 = true := by kernel_rfl
@[simp] theorem sz258 : sizeT Tryz.prog 258 = 1 := by kernel_rfl
@[simp] theorem ag258 : isAggT Tryz.prog 258 = some false := by kernel_rfl
@[simp] theorem zc258 : zcells Tryz.prog 258 = some [(.nilf, false)] := by kernel_rfl
@[simp] theorem zt258 : zeroT Tryz.prog 258 = true := by kernel_rfl
@[simp] theorem sz259 : sizeT Tryz.prog 259 = 1 := by kernel_rfl
@[simp] theorem ag259 : isAggT Tryz.prog 259 = some false := by kernel_rfl
@[simp] theorem zc259 : zcells Tryz.prog 259 = some [(.nilf, false)] := by kernel_rfl
@[simp] theorem zt259 : zeroT Tryz.prog 259 = true := by kernel_rfl
@[simp] theorem sz260 : sizeT Tryz.prog 260 = 1 := by kernel_rfl
@[simp] theorem ag260 : isAggT Tryz.prog 260 = some false := by kernel_rfl
@[simp] theorem zc260 : zcells Tryz.prog 260 = some [(.nilf, false)] := by kernel_rfl
@[simp] theorem zt260 : zeroT Tryz.prog 260 = true := by kernel_rfl
@[simp] theorem sz261 : sizeT Tryz.prog 261 = 1 := by kernel_rfl
@[simp] theorem ag261 : isAggT Tryz.prog 261 = some false := by kernel_rfl
@[simp] theorem zc261 : zcells Tryz.prog 261 = some [(.nilf, false)] := by kernel_rfl
@[simp] theorem zt261 : zeroT Tryz.prog 261 = true := by kernel_rfl
@[simp] theorem sz262 : sizeT Tryz.prog 262 = 1 := by kernel_rfl
@[simp] theorem ag262 : isAggT Tryz.prog 262 = some false := by kernel_rfl
@[simp] theorem zc262 : zcells Tryz.prog 262 = some [(.nilf, false)] := by kernel_rfl
@[simp] theorem zt262 : zeroT Tryz.prog 262 = true := by kernel_rfl
@[simp] theorem sz264 : sizeT Tryz.prog 264 = 1 := by kernel_rfl
@[simp] theorem ag264 : isAggT Tryz.prog 264 = some false := by kernel_rfl
@[simp] theorem zc264 : zcells Tryz.prog 264 = some [(.nilf, false)] := by kernel_rfl
@[simp] theorem zt264 : zeroT Tryz.prog 264 = true := by kernel_rfl
@[simp] theorem sz265 : sizeT Tryz.prog 265 = 1 := by kernel_rfl
@[simp] theorem ag265 : isAggT Tryz.prog 265 = some false := by kernel_rfl
@[simp] theorem zc265 : zcells Tryz.prog 265 = some [(.nilf, false)] := by kernel_rfl
@[simp] theorem zt265 : zeroT Tryz.prog 265 = true := by kernel_rfl
@[simp] theorem sz266 : sizeT Tryz.prog 266 = 1 := by kernel_rfl
@[simp] theorem ag266 : isAggT Tryz.prog 266 = some false := by kernel_rfl
@[simp] theorem zc266 : zcells Tryz.prog 266 = some [(.int .u32 0, false)] := by kernel_rfl
@[simp] theorem zt266 : zeroT Tryz.prog 266 = true := by kernel_rfl
@[simp] theorem sz268 : sizeT Tryz.prog 268 = 1 := by kernel_rfl
@[simp] theorem ag268 : isAggT Tryz.prog 268 = some false := by kernel_rfl
@[simp] theorem zc268 : zcells Tryz.prog 268 = some [(.nilf, false)] := by kernel_rfl
@[simp] theorem zt268 : zeroT Tryz.prog 268 = true := by kernel_rfl
@[simp] theorem sz269 : sizeT Tryz.prog 269 = 1 := by kernel_rfl
@[simp] theorem ag269 : isAggT Tryz.prog 269 = some false := by kernel_rfl
@[simp] theorem zc269 : zcells Tryz.prog 269 = some [(.int .u64 0, false)] := by kernel_rfl
@[simp] theorem zt269 : zeroT Tryz.prog 269 = true := by kernel_rfl
@[simp] theorem sz271 : sizeT Tryz.prog 271 = 1 := by kernel_rfl
@[simp] theorem ag271 : isAggT Tryz.prog 271 = some false := by kernel_rfl
@[simp] theorem zc271 : zcells Tryz.prog 271 = some [(.nilf, false)] := by kernel_rfl
@[simp] theorem zt271 : zeroT Tryz.prog 271 = true := by kernel_rfl
@[simp] theorem sz272 : sizeT Tryz.prog 272 = 1 := by kernel_rfl
@[simp] theorem ag272 : isAggT Tryz.prog 272 = some false := by kernel_rfl
@[simp] theorem zc272 : zcells Tryz.prog 272 = some [(.nilf, false)] := by kernel_rfl
@[simp] theorem zt272 : zeroT Tryz.prog 272 = true := by kernel_rfl
@[simp] theorem sz273 : sizeT Tryz.prog 273 = 1 := by kernel_rfl
@[simp] theorem ag273 : isAggT Tryz.prog 273 = some false := by kernel_rfl
@[simp] theorem zc273 : zcells Tryz.prog 273 = some [(.int .i64 0, false)] := by kernel_rfl
@[simp] theorem zt273 : zeroT Tryz.prog 273 = true := by kernel_rfl
@[simp] theorem sz275 : sizeT Tryz.prog 275 = 1 := by kernel_rfl
@[simp] theorem ag275 : isAggT Tryz.prog 275 = some false := by kernel_rfl
@[simp] theorem zc275 : zcells Tryz.prog 275 = some [(.nilf, false)] := by kernel_rfl
@[simp] theorem zt275 : zeroT Tryz.prog 275 = true := by kernel_rfl
@[simp] theorem sz276 : sizeT Tryz.prog 276 = 1 := by kernel_rfl
@[simp] theorem ag276 : isAggT Tryz.prog 276 = some false := by kernel_rfl
@[simp] theorem zc276 : zcells Tryz.prog 276 = some [(.nilf, false)] := by kernel_rfl
@[simp] theorem zt276 : zeroT Tryz.prog 276 = true := by kernel_rfl
@[simp] theorem sz277 : sizeT Tryz.prog 277 = 1 := by kernel_rfl
@[simp] theorem ag277 : isAggT Tryz.prog 277 = some false := by kernel_rfl
@[simp] theorem zc277 : zcells Tryz.prog 277 = some [(.nilf, false)] := by kernel_rfl
@[simp] theorem zt277 : zeroT Tryz.prog 277 = true := by kernel_rfl
@[simp] theorem sz278 : sizeT Tryz.prog 278 = 1 := by kernel_rfl
@[simp] theorem ag278 : isAggT Tryz.prog 278 = some false := by kernel_rfl
@[simp] theorem zc278 : zcells Tryz.prog 278 = some [(.nilf, false)] := by kernel_rfl
@[simp] theorem zt278 : zeroT Tryz.prog 278 = true := by kernel_rfl
@[simp] theorem sz279 : sizeT Tryz.prog 279 = 1 := by kernel_rfl
@[simp] theorem ag279 : isAggT Tryz.prog 279 = some false := by kernel_rfl
@[simp] theorem zc279 : zcells Tryz.prog 279 = some [(.nilf, false)] := by kernel_rfl
@[simp] theorem zt279 : zeroT Tryz.prog 279 = true := by kernel_rfl
@[simp] theorem sz280 : sizeT Tryz.prog 280 = 1 := by kernel_rfl
@[simp] theorem ag280 : isAggT Tryz.prog 280 = some false := by kernel_rfl
@[simp] theorem zc280 : zcells Tryz.prog 280 = some [(.nilf, false)] := by kernel_rfl
@[simp] theorem zt280 : zeroT Tryz.prog 280 = true := by kernel_rfl
@[simp] theorem sz281 : sizeT Tryz.prog 281 = 1 := by kernel_rfl
@[simp] theorem ag281 : isAggT Tryz.prog 281 = some false := by kernel_rfl
@[simp] theorem zc281 : zcells Tryz.prog 281 = some [(.nilf, false)] := by kernel_rfl
@[simp] theorem zt281 : zeroT Tryz.prog 281 = true := by kernel_rfl
@[simp] theorem sz285 : sizeT Tryz.prog 285 = 1 := by kernel_rfl
@[simp] theorem ag285 : isAggT Tryz.prog 285 = some false := by kernel_rfl
@[simp] theorem zc285 : zcells Tryz.prog 285 = some [(.nilf, false)] := by kernel_rfl
@[simp] theorem zt285 : zeroT Tryz.prog 285 = true := by kernel_rfl
@[simp] theorem sz286 : sizeT Tryz.prog 286 = 1 := by kernel_rfl
@[simp] theorem ag286 : isAggT Tryz.prog 286 = some false := by kernel_rfl
@[simp] theorem zc286 : zcells Tryz.prog 286 = some [(.nilf, false)] := by kernel_rfl
@[simp] theorem zt286 : zeroT Tryz.prog 286 = true := by kernel_rfl
@[simp] theorem sz287 : sizeT Tryz.prog 287 = 1 := by kernel_rfl
@[simp] theorem ag287 : isAggT Tryz.prog 287 = some false := by kernel_rfl
@[simp] theorem zc287 : zcells Tryz.prog 287 = some [(.nilp, false)] := by kernel_rfl
@[simp] theorem zt287 : zeroT Tryz.prog 287 = true := by kernel_rfl
@[simp] theorem sz288 : sizeT Tryz.prog 288 = 1 := by kernel_rfl
@[simp] theorem ag288 : isAggT Tryz.prog 288 = some false := by kernel_rfl
@[simp] theorem zc288 : zcells Tryz.prog 288 = some [(.nilf, false)] := by kernel_rfl
@[simp] theorem zt288 : zeroT Tryz.prog 288 = true := by kernel_rfl
@[simp] theorem sz289 : sizeT Tryz.prog 289 = 1 := by kernel_rfl
@[simp] theorem ag289 : isAggT Tryz.prog 289 = some false := by kernel_rfl
@[simp] theorem zc289 : zcells Tryz.prog 289 = some [(.nilf, false)] := by kernel_rfl
@[simp] theorem zt289 : zeroT Tryz.prog 289 = true := by kernel_rfl
@[simp] theorem sz290 : sizeT Tryz.prog 290 = 1 := by kernel_rfl
@[simp] theorem ag290 : isAggT Tryz.prog 290 = some false := by kernel_rfl
@[simp] theorem zc290 : zcells Tryz.prog 290 = some [(.nilm, false)] := by kernel_rfl
@[simp] theorem zt290 : zeroT Tryz.prog 290 = true := by kernel_rfl
@[simp] theorem un290 : Tryz.prog.underlying 290 = some (.map 3 3) := by kernel_rfl
@[simp] theorem sz291 : sizeT Tryz.prog 291 = 1 := by kernel_rfl
@[simp] theorem ag291 : isAggT Tryz.prog 291 = some false := by kernel_rfl
@[simp] theorem zc291 : zcells Tryz.prog 291 = some [(.nilp, false)] := by kernel_rfl
@[simp] theorem zt291 : zeroT Tryz.prog 291 = true := by kernel_rfl
@[simp] theorem sz292 : sizeT Tryz.prog 292 = 1 := by kernel_rfl
@[simp] theorem ag292 : isAggT Tryz.prog 292 = some false := by kernel_rfl
@[simp] theorem zc292 : zcells Tryz.prog 292 = some [(.nilf, false)] := by kernel_rfl
@[simp] theorem zt292 : zeroT Tryz.prog 292 = true := by kernel_rfl
@[simp] theorem sz293 : sizeT Tryz.prog 293 = 1 := by kernel_rfl
@[simp] theorem ag293 : isAggT Tryz.prog 293 = some false := by kernel_rfl
@[simp] theorem zc293 : zcells Tryz.prog 293 = some [(.nilf, false)] := by kernel_rfl
@[simp] theorem zt293 : zeroT Tryz.prog 293 = true := by kernel_rfl
@[simp] theorem sz294 : sizeT Tryz.prog 294 = 1 := by kernel_rfl
@[simp] theorem ag294 : isAggT Tryz.prog 294 = some false := by kernel_rfl
@[simp] theorem zc294 : zcells Tryz.prog 294 = some [(.nilf, false)] := by kernel_rfl
@[simp] theorem zt294 : zeroT Tryz.prog 294 = true := by kernel_rfl
@[simp] theorem sz295 : sizeT Tryz.prog 295 = 1 := by kernel_rfl
@[simp] theorem ag295 : isAggT Tryz.prog 295 = some false := by kernel_rfl
@[simp] theorem zc295 : zcells Tryz.prog 295 = some [(.nilf, false)] := by kernel_rfl
@[simp] theorem zt295 : zeroT Tryz.prog 295 = true := by kernel_rfl
@[simp] theorem sz296 : sizeT Tryz.prog 296 = 1 := by kernel_rfl
@[simp] theorem ag296 : isAggT Tryz.prog 296 = some false := by kernel_rfl
@[simp] theorem zc296 : zcells Tryz.prog 296 = some [(.nilf, false)] := by kernel_rfl
@[simp] theorem zt296 : zeroT Tryz.prog 296 = true := by kernel_rfl
@[simp] theorem sz297 : sizeT Tryz.prog 297 = 1 := by kernel_rfl
@[simp] theorem ag297 : isAggT Tryz.prog 297 = some false := by kernel_rfl
@[simp] theorem zc297 : zcells Tryz.prog 297 = some [(.nilf, false)] := by kernel_rfl
@[simp] theorem zt297 : zeroT Tryz.prog 297 = true := by kernel_rfl
@[simp] theorem sz298 : sizeT Tryz.prog 298 = 1 := by kernel_rfl
@[simp] theorem ag298 : isAggT Tryz.prog 298 = some false := by kernel_rfl
@[simp] theorem zc298 : zcells Tryz.prog 298 = some [(.nilf, false)] := by kernel_rfl
@[simp] theorem zt298 : zeroT Tryz.prog 298 = true := by kernel_rfl
@[simp] theorem sz299 : sizeT Tryz.prog 299 = 1 := by kernel_rfl
@[simp] theorem ag299 : isAggT Tryz.prog 299 = some false := by kernel_rfl
@[simp] theorem zc299 : zcells Tryz.prog 299 = some [(.nilp, false)] := by kernel_rfl
@[simp] theorem zt299 : zeroT Tryz.prog 299 = true := by kernel_rfl
@[simp] theorem sz300 : sizeT Tryz.prog 300 = 1 := by kernel_rfl
@[simp] theorem ag300 : isAggT Tryz.prog 300 = some false := by kernel_rfl
@[simp] theorem zc300 : zcells Tryz.prog 300 = some [(.nilf, false)] := by kernel_rfl
@[simp] theorem zt300 : zeroT Tryz.prog 300 = true := by kernel_rfl
@[simp] theorem sz301 : sizeT Tryz.prog 301 = 1 := by kernel_rfl
@[simp] theorem ag301 : isAggT Tryz.prog 301 = some false := by kernel_rfl
@[simp] theorem zc301 : zcells Tryz.prog 301 = some [(.nilf, false)] := by kernel_rfl
@[simp] theorem zt301 : zeroT Tryz.prog 301 = true := by kernel_rfl
@[simp] theorem sz302 : sizeT Tryz.prog 302 = 1 := by kernel_rfl
@[simp] theorem ag302 : isAggT Tryz.prog 302 = some false := by kernel_rfl
@[simp] theorem zc302 : zcells Tryz.prog 302 = some [(.nilf, false)] := by kernel_rfl
@[simp] theorem zt302 : zeroT Tryz.prog 302 = true := by kernel_rfl
@[simp] theorem sz303 : sizeT Tryz.prog 303 = 7 := by kernel_rfl
@[simp] theorem ag303 : isAggT Tryz.prog 303 = some true := by kernel_rfl
@[simp] theorem zc303 : zcells Tryz.prog 303 = some [(.bool false, false), (.bool false, false), (.bool false, false), (.bool false, false), (.bool false, false), (.bool false, false), (.bool false, false)] := by kernel_rfl
@[simp] theorem zt303 : zeroT Tryz.prog 303 = true := by kernel_rfl
@[simp] theorem fa303_0 (x : AVal) : afield Tryz.prog 303 x 0 = ashift 0 x := by kernel_rfl
@[simp] theorem fv303_0 (cs : List AVal) : afieldv Tryz.prog 303 (.agg cs) 0 = cs[0]? := by kernel_rfl
@[simp] theorem fa303_1 (x : AVal) : afield Tryz.prog 303 x 1 = ashift 1 x := by kernel_rfl
@[simp] theorem fv303_1 (cs : List AVal) : afieldv Tryz.prog 303 (.agg cs) 1 = cs[1]? := by kernel_rfl
@[simp] theorem fa303_2 (x : AVal) : afield Tryz.prog 303 x 2 = ashift 2 x := by kernel_rfl
@[simp] theorem fv303_2 (cs : List AVal) : afieldv Tryz.prog 303 (.agg cs) 2 = cs[2]? := by kernel_rfl
@[simp] theorem fa303_3 (x : AVal) : afield Tryz.prog 303 x 3 = ashift 3 x := by kernel_rfl
@[simp] theorem fv303_3 (cs : List AVal) : afieldv Tryz.prog 303 (.agg cs) 3 = cs[3]? := by kernel_rfl
@[simp] theorem fa303_4 (x : AVal) : afield Tryz.prog 303 x 4 = ashift 4 x := by kernel_rfl
@[simp] theorem fv303_4 (cs : List AVal) : afieldv Tryz.prog 303 (.agg cs) 4 = cs[4]? := by kernel_rfl
@[simp] theorem fa303_5 (x : AVal) : afield Tryz.prog 303 x 5 = ashift 5 x := by kernel_rfl
@[simp] theorem fv303_5 (cs : List AVal) : afieldv Tryz.prog 303 (.agg cs) 5 = cs[5]? := by kernel_rfl
@[simp] theorem fa303_6 (x : AVal) : afield Tryz.prog 303 x 6 = ashift 6 x := by kernel_rfl
@[simp] theorem fv303_6 (cs : List AVal) : afieldv Tryz.prog 303 (.agg cs) 6 = cs[6]? := by kernel_rfl
@[simp] theorem bd303 (nl : Bool) (ps : List (Nat × AVal)) : abuild Tryz.prog nl 303 ps = afillL [(0, 1), (1, 1), (2, 1), (3, 1), (4, 1), (5, 1), (6, 1)] (if nl then [.bool false, .bool false, .bool false, .bool false, .bool false, .bool false, .bool false] else [.bool false, .bool false, .bool false, .bool false, .bool false, .bool false, .bool false]) ps := by cases nl <;> kernel_rfl
@[simp] theorem sz304 : sizeT Tryz.prog 304 = 7 := by kernel_rfl
@[simp] theorem ag304 : isAggT Tryz.prog 304 = some true := by kernel_rfl
@[simp] theorem zc304 : zcells Tryz.prog 304 = some [(.bool false, false), (.bool false, false), (.bool false, false), (.bool false, false), (.bool false, false), (.bool false, false), (.bool false, false)] := by kernel_rfl
@[simp] theorem zt304 : zeroT Tryz.prog 304 = true := by kernel_rfl
@[simp] theorem fa304_0 (x : AVal) : afield Tryz.prog 304 x 0 = ashift 0 x := by kernel_rfl
@[simp] theorem fv304_0 (cs : List AVal) : afieldv Tryz.prog 304 (.agg cs) 0 = cs[0]? := by kernel_rfl
@[simp] theorem fa304_1 (x : AVal) : afield Tryz.prog 304 x 1 = ashift 1 x := by kernel_rfl
@[simp] theorem fv304_1 (cs : List AVal) : afieldv Tryz.prog 304 (.agg cs) 1 = cs[1]? := by kernel_rfl
@[simp] theorem fa304_2 (x : AVal) : afield Tryz.prog 304 x 2 = ashift 2 x := by kernel_rfl
@[simp] theorem fv304_2 (cs : List AVal) : afieldv Tryz.prog 304 (.agg cs) 2 = cs[2]? := by kernel_rfl
@[simp] theorem fa304_3 (x : AVal) : afield Tryz.prog 304 x 3 = ashift 3 x := by kernel_rfl
@[simp] theorem fv304_3 (cs : List AVal) : afieldv Tryz.prog 304 (.agg cs) 3 = cs[3]? := by kernel_rfl
@[simp] theorem fa304_4 (x : AVal) : afield Tryz.prog 304 x 4 = ashift 4 x := by kernel_rfl
@[simp] theorem fv304_4 (cs : List AVal) : afieldv Tryz.prog 304 (.agg cs) 4 = cs[4]? := by kernel_rfl
@[simp] theorem fa304_5 (x : AVal) : afield Tryz.prog 304 x 5 = ashift 5 x := by kernel_rfl
@[simp] theorem fv304_5 (cs : List AVal) : afieldv Tryz.prog 304 (.agg cs) 5 = cs[5]? := by kernel_rfl
@[simp] theorem fa304_6 (x : AVal) : afield Tryz.prog 304 x 6 = ashift 6 x := by kernel_rfl
@[simp] theorem fv304_6 (cs : List AVal) : afieldv Tryz.prog 304 (.agg cs) 6 = cs[6]? := by kernel_rfl
@[simp] theorem bd304 (nl : Bool) (ps : List (Nat × AVal)) : abuild Tryz.prog nl 304 ps = afillL [(0, 1), (1, 1), (2, 1), (3, 1), (4, 1), (5, 1), (6, 1)] (if nl then [.bool false, .bool false, .bool false, .bool false, .bool false, .bool false, .bool false] else [.bool false, .bool false, .bool false, .bool false, .bool false, .bool false, .bool false]) ps := by cases nl <;> kernel_rfl
@[simp] theorem sz305 : sizeT Tryz.prog 305 = 1 := by kernel_rfl
@[simp] theorem ag305 : isAggT Tryz.prog 305 = some false := by kernel_rfl
@[simp] theorem zc305 : zcells Tryz.prog 305 = some [(.nilf, false)] := by kernel_rfl
@[simp] theorem zt305 : zeroT Tryz.prog 305 = true := by kernel_rfl
@[simp] theorem sz306 : sizeT Tryz.prog 306 = 1 := by kernel_rfl
@[simp] theorem ag306 : isAggT Tryz.prog 306 = some false := by kernel_rfl
@[simp] theorem zc306 : zcells Tryz.prog 306 = some [(.lst [], true)] := by kernel_rfl
@[simp] theorem zt306 : zeroT Tryz.prog 306 = true := by kernel_rfl
@[simp] theorem un306 : Tryz.prog.underlying 306 = some (.slice 309) := by kernel_rfl
@[simp] theorem st306 : slT Tryz.prog 306 = true := by kernel_rfl
@[simp] theorem ai306 : apInfo Tryz.prog 306 = some (309, 232, 15, true) := by kernel_rfl
@[simp] theorem sz307 : sizeT Tryz.prog 307 = 1 := by kernel_rfl
@[simp] theorem ag307 : isAggT Tryz.prog 307 = some false := by kernel_rfl
@[simp] theorem zc307 : zcells Tryz.prog 307 = some [(.nilf, false)] := by kernel_rfl
@[simp] theorem zt307 : zeroT Tryz.prog 307 = true := by kernel_rfl
@[simp] theorem sz308 : sizeT Tryz.prog 308 = 15 := by kernel_rfl
@[simp] theorem ag308 : isAggT Tryz.prog 308 = some true := by kernel_rfl
@[simp] theorem zc308 : zcells Tryz.prog 308 = some [(.int .i64 0, false), (.str ByteArray.empty, false), (.str ByteArray.empty, false), (.str ByteArray.empty, false), (.str ByteArray.empty, false), (.int .i64 0, false), (.int .i64 0, false), (.str ByteArray.empty, false), (.lst [], true), (.lst [], true), (.lst [], true), (.str ByteArray.empty, false), (.lst [], true), (.int .i64 0, false), (.bool false, false)] := by kernel_rfl
@[simp] theorem zt308 : zeroT Tryz.prog 308 = true := by kernel_rfl
@[simp] theorem fa308_0 (x : AVal) : afield Tryz.prog 308 x 0 = ashift 0 x := by kernel_rfl
@[simp] theorem fv308_0 (cs : List AVal) : afieldv Tryz.prog 308 (.agg cs) 0 = if 0 + 13 ≤ cs.length then some (.agg ((cs.drop 0).take 13)) else none := by kernel_rfl
@[simp] theorem fa308_1 (x : AVal) : afield Tryz.prog 308 x 1 = ashift 13 x := by kernel_rfl
@[simp] theorem fv308_1 (cs : List AVal) : afieldv Tryz.prog 308 (.agg cs) 1 = cs[13]? := by kernel_rfl
@[simp] theorem fa308_2 (x : AVal) : afield Tryz.prog 308 x 2 = ashift 14 x := by kernel_rfl
@[simp] theorem fv308_2 (cs : List AVal) : afieldv Tryz.prog 308 (.agg cs) 2 = cs[14]? := by kernel_rfl
@[simp] theorem bd308 (nl : Bool) (ps : List (Nat × AVal)) : abuild Tryz.prog nl 308 ps = afillL [(0, 13), (13, 1), (14, 1)] (if nl then [.int .i64 0, .str ByteArray.empty, .str ByteArray.empty, .str ByteArray.empty, .str ByteArray.empty, .int .i64 0, .int .i64 0, .str ByteArray.empty, .nils, .nils, .nils, .str ByteArray.empty, .nils, .int .i64 0, .bool false] else [.int .i64 0, .str ByteArray.empty, .str ByteArray.empty, .str ByteArray.empty, .str ByteArray.empty, .int .i64 0, .int .i64 0, .str ByteArray.empty, .lst [], .lst [], .lst [], .str ByteArray.empty, .lst [], .int .i64 0, .bool false]) ps := by cases nl <;> kernel_rfl
@[simp] theorem sz309 : sizeT Tryz.prog 309 = 15 := by kernel_rfl
@[simp] theorem ag309 : isAggT Tryz.prog 309 = some true := by kernel_rfl
@[simp] theorem zc309 : zcells Tryz.prog 309 = some [(.int .i64 0, false), (.str ByteArray.empty, false), (.str ByteArray.empty, false), (.str ByteArray.empty, false), (.str ByteArray.empty, false), (.int .i64 0, false), (.int .i64 0, false), (.str ByteArray.empty, false), (.lst [], true), (.lst [], true), (.lst [], true), (.str ByteArray.empty, false), (.lst [], true), (.int .i64 0, false), (.bool false, false)] := by kernel_rfl
@[simp] theorem zt309 : zeroT Tryz.prog 309 = true := by kernel_rfl
@[simp] theorem fa309_0 (x : AVal) : afield Tryz.prog 309 x 0 = ashift 0 x := by kernel_rfl
@[simp] theorem fv309_0 (cs : List AVal) : afieldv Tryz.prog 309 (.agg cs) 0 = if 0 + 13 ≤ cs.length then some (.agg ((cs.drop 0).take 13)) else none := by kernel_rfl
@[simp] theorem fa309_1 (x : AVal) : afield Tryz.prog 309 x 1 = ashift 13 x := by kernel_rfl
@[simp] theorem fv309_1 (cs : List AVal) : afieldv Tryz.prog 309 (.agg cs) 1 = cs[13]? := by kernel_rfl
@[simp] theorem fa309_2 (x : AVal) : afield Tryz.prog 309 x 2 = ashift 14 x := by kernel_rfl
@[simp] theorem fv309_2 (cs : List AVal) : afieldv Tryz.prog 309 (.agg cs) 2 = cs[14]? := by kernel_rfl
@[simp] theorem bd309 (nl : Bool) (ps : List (Nat × AVal)) : abuild Tryz.prog nl 309 ps = afillL [(0, 13), (13, 1), (14, 1)] (if nl then [.int .i64 0, .str ByteArray.empty, .str ByteArray.empty, .str ByteArray.empty, .str ByteArray.empty, .int .i64 0, .int .i64 0, .str ByteArray.empty, .nils, .nils, .nils, .str ByteArray.empty, .nils, .int .i64 0, .bool false] else [.int .i64 0, .str ByteArray.empty, .str ByteArray.empty, .str ByteArray.empty, .str ByteArray.empty, .int .i64 0, .int .i64 0, .str ByteArray.empty, .lst [], .lst [], .lst [], .str ByteArray.empty, .lst [], .int .i64 0, .bool false]) ps := by cases nl <;> kernel_rfl
@[simp] theorem sz310 : sizeT Tryz.prog 310 = 1 := by kernel_rfl
@[simp] theorem ag310 : isAggT Tryz.prog 310 = some false := by kernel_rfl
@[simp] theorem zc310 : zcells Tryz.prog 310 = some [(.nilf, false)] := by kernel_rfl
@[simp] theorem zt310 : zeroT Tryz.prog 310 = true := by kernel_rfl
@[simp] theorem sz311 : sizeT Tryz.prog 311 = 1 := by kernel_rfl
@[simp] theorem ag311 : isAggT Tryz.prog 311 = some false := by kernel_rfl
@[simp] theorem zc311 : zcells Tryz.prog 311 = some [(.nilf, false)] := by kernel_rfl
@[simp] theorem zt311 : zeroT Tryz.prog 311 = true := by kernel_rfl
@[simp] theorem sz312 : sizeT Tryz.prog 312 = 1 := by kernel_rfl
@[simp] theorem ag312 : isAggT Tryz.prog 312 = some false := by kernel_rfl
@[simp] theorem zc312 : zcells Tryz.prog 312 = some [(.nilf, false)] := by kernel_rfl
@[simp] theorem zt312 : zeroT Tryz.prog 312 = true := by kernel_rfl
@[simp] theorem sz313 : sizeT Tryz.prog 313 = 1 := by kernel_rfl
@[simp] theorem ag313 : isAggT Tryz.prog 313 = some false := by kernel_rfl
@[simp] theorem zc313 : zcells Tryz.prog 313 = some [(.nilf, false)] := by kernel_rfl
@[simp] theorem zt313 : zeroT Tryz.prog 313 = true := by kernel_rfl
@[simp] theorem sz314 : sizeT Tryz.prog 314 = 1 := by kernel_rfl
@[simp] theorem ag314 : isAggT Tryz.prog 314 = some false := by kernel_rfl
@[simp] theorem zc314 : zcells Tryz.prog 314 = some [(.nilf, false)] := by kernel_rfl
@[simp] theorem zt314 : zeroT Tryz.prog 314 = true := by kernel_rfl
@[simp] theorem sz315 : sizeT Tryz.prog 315 = 1 := by kernel_rfl
@[simp] theorem ag315 : isAggT Tryz.prog 315 = some false := by kernel_rfl
@[simp] theorem zc315 : zcells Tryz.prog 315 = some [(.nilf, false)] := by kernel_rfl
@[simp] theorem zt315 : zeroT Tryz.prog 315 = true := by kernel_rfl
@[simp] theorem sz316 : sizeT Tryz.prog 316 = 1 := by kernel_rfl
@[simp] theorem ag316 : isAggT Tryz.prog 316 = some false := by kernel_rfl
@[simp] theorem zc316 : zcells Tryz.prog 316 = some [(.int .u64 0, false)] := by kernel_rfl
@[simp] theorem zt316 : zeroT Tryz.prog 316 = true := by kernel_rfl
@[simp] theorem sz317 : sizeT Tryz.prog 317 = 1 := by kernel_rfl
@[simp] theorem ag317 : isAggT Tryz.prog 317 = some false := by kernel_rfl
@[simp] theorem zc317 : zcells Tryz.prog 317 = some [(.nilf, false)] := by kernel_rfl
@[simp] theorem zt317 : zeroT Tryz.prog 317 = true := by kernel_rfl
@[simp] theorem sz318 : sizeT Tryz.prog 318 = 1 := by kernel_rfl
@[simp] theorem ag318 : isAggT Tryz.prog 318 = some false := by kernel_rfl
@[simp] theorem zc318 : zcells Tryz.prog 318 = some [(.nilf, false)] := by kernel_rfl
@[simp] theorem zt318 : zeroT Tryz.prog 318 = true := by kernel_rfl
@[simp] theorem sz319 : sizeT Tryz.prog 319 = 1 := by kernel_rfl
@[simp] theorem ag319 : isAggT Tryz.prog 319 = some false := by kernel_rfl
@[simp] theorem zc319 : zcells Tryz.prog 319 = some [(.nilf, false)] := by kernel_rfl
@[simp] theorem zt319 : zeroT Tryz.prog 319 = true := by kernel_rfl
@[simp] theorem sz320 : sizeT Tryz.prog 320 = 1 := by kernel_rfl
@[simp] theorem ag320 : isAggT Tryz.prog 320 = some false := by kernel_rfl
@[simp] theorem zc320 : zcells Tryz.prog 320 = some [(.nilf, false)] := by kernel_rfl
@[simp] theorem zt320 : zeroT Tryz.prog 320 = true := by kernel_rfl
@[simp] theorem sz321 : sizeT Tryz.prog 321 = 1 := by kernel_rfl
@[simp] theorem ag321 : isAggT Tryz.prog 321 = some false := by kernel_rfl
@[simp] theorem zc321 : zcells Tryz.prog 321 = some [(.nilf, false)] := by kernel_rfl
@[simp] theorem zt321 : zeroT Tryz.prog 321 = true := by kernel_rfl
@[simp] theorem sz322 : sizeT Tryz.prog 322 = 1 := by kernel_rfl
@[simp] theorem ag322 : isAggT Tryz.prog 322 = some false := by kernel_rfl
@[simp] theorem zc322 : zcells Tryz.prog 322 = some [(.nilf, false)] := by kernel_rfl
@[simp] theorem zt322 : zeroT Tryz.prog 322 = true := by kernel_rfl
@[simp] theorem sz323 : sizeT Tryz.prog 323 = 1 := by kernel_rfl
@[simp] theorem ag323 : isAggT Tryz.prog 323 = some false := by kernel_rfl
@[simp] theorem zc323 : zcells Tryz.prog 323 = some [(.nilf, false)] := by kernel_rfl
@[simp] theorem zt323 : zeroT Tryz.prog 323 = true := by kernel_rfl
@[simp] theorem sz324 : sizeT Tryz.prog 324 = 1 := by kernel_rfl
@[simp] theorem ag324 : isAggT Tryz.prog 324 = some false := by kernel_rfl
@[simp] theorem zc324 : zcells Tryz.prog 324 = some [(.nilf, false)] := by kernel_rfl
@[simp] theorem zt324 : zeroT Tryz.prog 324 = true := by kernel_rfl
@[simp] theorem sz325 : sizeT Tryz.prog 325 = 1 := by kernel_rfl
@[simp] theorem ag325 : isAggT Tryz.prog 325 = some false := by kernel_rfl
@[simp] theorem zc325 : zcells Tryz.prog 325 = some [(.nilf, false)] := by kernel_rfl
@[simp] theorem zt325 : zeroT Tryz.prog 325 = true := by kernel_rfl
@[simp] theorem sz326 : sizeT Tryz.prog 326 = 1 := by kernel_rfl
@[simp] theorem ag326 : isAggT Tryz.prog 326 = some false := by kernel_rfl
@[simp] theorem zc326 : zcells Tryz.prog 326 = some [(.nilf, false)] := by kernel_rfl
@[simp] theorem zt326 : zeroT Tryz.prog 326 = true := by kernel_rfl
@[simp] theorem sz327 : sizeT Tryz.prog 327 = 1 := by kernel_rfl
@[simp] theorem ag327 : isAggT Tryz.prog 327 = some false := by kernel_rfl
@[simp] theorem zc327 : zcells Tryz.prog 327 = some [(.nilf, false)] := by kernel_rfl
@[simp] theorem zt327 : zeroT Tryz.prog 327 = true := by kernel_rfl
@[simp] theorem sz328 : sizeT Tryz.prog 328 = 1 := by kernel_rfl
@[simp] theorem ag328 : isAggT Tryz.prog 328 = some false := by kernel_rfl
@[simp] theorem zc328 : zcells Tryz.prog 328 = some [(.nilf, false)] := by kernel_rfl
@[simp] theorem zt328 : zeroT Tryz.prog 328 = true := by kernel_rfl
@[simp] theorem sz329 : sizeT Tryz.prog 329 = 1 := by kernel_rfl
@[simp] theorem ag329 : isAggT Tryz.prog 329 = some false := by kernel_rfl
@[simp] theorem zc329 : zcells Tryz.prog 329 = some [(.nilf, false)] := by kernel_rfl
@[simp] theorem zt329 : zeroT Tryz.prog 329 = true := by kernel_rfl
@[simp] theorem sz330 : sizeT Tryz.prog 330 = 1 := by kernel_rfl
@[simp] theorem ag330 : isAggT Tryz.prog 330 = some false := by kernel_rfl
@[simp] theorem zc330 : zcells Tryz.prog 330 = some [(.nilf, false)] := by kernel_rfl
@[simp] theorem zt330 : zeroT Tryz.prog 330 = true := by kernel_rfl
@[simp] theorem sz331 : sizeT Tryz.prog 331 = 1 := by kernel_rfl
@[simp] theorem ag331 : isAggT Tryz.prog 331 = some false := by kernel_rfl
@[simp] theorem zc331 : zcells Tryz.prog 331 = some [(.nilf, false)] := by kernel_rfl
@[simp] theorem zt331 : zeroT Tryz.prog 331 = true := by kernel_rfl
@[simp] theorem sz332 : sizeT Tryz.prog 332 = 1 := by kernel_rfl
@[simp] theorem ag332 : isAggT Tryz.prog 332 = some false := by kernel_rfl
@[simp] theorem zc332 : zcells Tryz.prog 332 = some [(.nilf, false)] := by kernel_rfl
@[simp] theorem zt332 : zeroT Tryz.prog 332 = true := by kernel_rfl
@[simp] theorem sz334 : sizeT Tryz.prog 334 = 2 := by kernel_rfl
@[simp] theorem ag334 : isAggT Tryz.prog 334 = some true := by kernel_rfl
@[simp] theorem zc334 : zcells Tryz.prog 334 = some [(.int .u8 0, false), (.int .u8 0, false)] := by kernel_rfl
@[simp] theorem zt334 : zeroT Tryz.prog 334 = true := by kernel_rfl
@[simp] theorem fa334_0 (x : AVal) : afield Tryz.prog 334 x 0 = ashift 0 x := by kernel_rfl
@[simp] theorem fv334_0 (cs : List AVal) : afieldv Tryz.prog 334 (.agg cs) 0 = cs[0]? := by kernel_rfl
@[simp] theorem fa334_1 (x : AVal) : afield Tryz.prog 334 x 1 = ashift 1 x := by kernel_rfl
@[simp] theorem fv334_1 (cs : List AVal) : afieldv Tryz.prog 334 (.agg cs) 1 = cs[1]? := by kernel_rfl
@[simp] theorem bd334 (nl : Bool) (ps : List (Nat × AVal)) : abuild Tryz.prog nl 334 ps = afillL [(0, 1), (1, 1)] (if nl then [.int .u8 0, .int .u8 0] else [.int .u8 0, .int .u8 0]) ps := by cases nl <;> kernel_rfl
@[simp] theorem sz335 : sizeT Tryz.prog 335 = 2 := by kernel_rfl
@[simp] theorem ag335 : isAggT Tryz.prog 335 = some true := by kernel_rfl
@[simp] theorem zc335 : zcells Tryz.prog 335 = some [(.int .u8 0, false), (.int .u8 0, false)] := by kernel_rfl
@[simp] theorem zt335 : zeroT Tryz.prog 335 = true := by kernel_rfl
@[simp] theorem fa335_0 (x : AVal) : afield Tryz.prog 335 x 0 = ashift 0 x := by kernel_rfl
@[simp] theorem fv335_0 (cs : List AVal) : afieldv Tryz.prog 335 (.agg cs) 0 = cs[0]? := by kernel_rfl
@[simp] theorem fa335_1 (x : AVal) : afield Tryz.prog 335 x 1 = ashift 1 x := by kernel_rfl
@[simp] theorem fv335_1 (cs : List AVal) : afieldv Tryz.prog 335 (.agg cs) 1 = cs[1]? := by kernel_rfl
@[simp] theorem bd335 (nl : Bool) (ps : List (Nat × AVal)) : abuild Tryz.prog nl 335 ps = afillL [(0, 1), (1, 1)] (if nl then [.int .u8 0, .int .u8 0] else [.int .u8 0, .int .u8 0]) ps := by cases nl <;> kernel_rfl
@[simp] theorem sz336 : sizeT Tryz.prog 336 = 32 := by kernel_rfl
@[simp] theorem ag336 : isAggT Tryz.prog 336 = some true := by kernel_rfl
@[simp] theorem zc336 : zcells Tryz.prog 336 = some [(.int .u8 0, false), (.int .u8 0, false), (.int .u8 0, false), (.int .u8 0, false), (.int .u8 0, false), (.int .u8 0, false), (.int .u8 0, false), (.int .u8 0, false), (.int .u8 0, false), (.int .u8 0, false), (.int .u8 0, false), (.int .u8 0, false), (.int .u8 0, false), (.int .u8 0, false), (.int .u8 0, false), (.int .u8 0, false), (.int .u8 0, false), (.int .u8 0, false), (.int .u8 0, false), (.int .u8 0, false), (.int .u8 0, false), (.int .u8 0, false), (.int .u8 0, false), (.int .u8 0, false), (.int .u8 0, false), (.int .u8 0, false), (.int .u8 0, false), (.int .u8 0, false), (.int .u8 0, false), (.int .u8 0, false), (.int .u8 0, false), (.int .u8 0, false)] := by kernel_rfl
@[simp] theorem zt336 : zeroT Tryz.prog 336 = true := by kernel_rfl
@[simp] theorem sz337 : sizeT Tryz.prog 337 = 1 := by kernel_rfl
@[simp] theorem ag337 : isAggT Tryz.prog 337 = some false := by kernel_rfl
@[simp] theorem zc337 : zcells Tryz.prog 337 = some [(.nilf, false)] := by kernel_rfl
@[simp] theorem zt337 : zeroT Tryz.prog 337 = true := by kernel_rfl
@[simp] theorem sz338 : sizeT Tryz.prog 338 = 1 := by kernel_rfl
@[simp] theorem ag338 : isAggT Tryz.prog 338 = some false := by kernel_rfl
@[simp] theorem zc338 : zcells Tryz.prog 338 = some [(.nilp, false)] := by kernel_rfl
@[simp] theorem zt338 : zeroT Tryz.prog 338 = true := by kernel_rfl
@[simp] theorem sz339 : sizeT Tryz.prog 339 = 1 := by kernel_rfl
@[simp] theorem ag339 : isAggT Tryz.prog 339 = some false := by kernel_rfl
@[simp] theorem zc339 : zcells Tryz.prog 339 = some [(.nilf, false)] := by kernel_rfl
@[simp] theorem zt339 : zeroT Tryz.prog 339 = true := by kernel_rfl
@[simp] theorem sz340 : sizeT Tryz.prog 340 = 1 := by kernel_rfl
@[simp] theorem ag340 : isAggT Tryz.prog 340 = some false := by kernel_rfl
@[simp] theorem zc340 : zcells Tryz.prog 340 = some [(.nilf, false)] := by kernel_rfl
@[simp] theorem zt340 : zeroT Tryz.prog 340 = true := by kernel_rfl
@[simp] theorem sz341 : sizeT Tryz.prog 341 = 1 := by kernel_rfl
@[simp] theorem ag341 : isAggT Tryz.prog 341 = some false := by kernel_rfl
@[simp] theorem zc341 : zcells Tryz.prog 341 = some [(.nilf, false)] := by kernel_rfl
@[simp] theorem zt341 : zeroT Tryz.prog 341 = true := by kernel_rfl
@[simp] theorem sz342 : sizeT Tryz.prog 342 = 1 := by kernel_rfl
@[simp] theorem ag342 : isAggT Tryz.prog 342 = some false := by kernel_rfl
@[simp] theorem zc342 : zcells Tryz.prog 342 = some [(.nilf, false)] := by kernel_rfl
@[simp] theorem zt342 : zeroT Tryz.prog 342 = true := by kernel_rfl
@[simp] theorem sz343 : sizeT Tryz.prog 343 = 24 := by kernel_rfl
@[simp] theorem ag343 : isAggT Tryz.prog 343 = some true := by kernel_rfl
@[simp] theorem zc343 : zcells Tryz.prog 343 = some [(.int .u8 0, false), (.int .u8 0, false), (.int .u8 0, false), (.int .u8 0, false), (.int .u8 0, false), (.int .u8 0, false), (.int .u8 0, false), (.int .u8 0, false), (.int .u8 0, false), (.int .u8 0, false), (.int .u8 0, false), (.int .u8 0, false), (.int .u8 0, false), (.int .u8 0, false), (.int .u8 0, false), (.int .u8 0, false), (.int .u8 0, false), (.int .u8 0, false), (.int .u8 0, false), (.int .u8 0, false), (.int .u8 0, false), (.int .u8 0, false), (.int .u8 0, false), (.int .u8 0, false)] := by kernel_rfl
@[simp] theorem zt343 : zeroT Tryz.prog 343 = true := by kernel_rfl
@[simp] theorem sz344 : sizeT Tryz.prog 344 = 1 := by kernel_rfl
@[simp] theorem ag344 : isAggT Tryz.prog 344 = some false := by kernel_rfl
@[simp] theorem zc344 : zcells Tryz.prog 344 = some [(.nilf, false)] := by kernel_rfl
@[simp] theorem zt344 : zeroT Tryz.prog 344 = true := by kernel_rfl
@[simp] theorem sz346 : sizeT Tryz.prog 346 = 1 := by kernel_rfl
@[simp] theorem ag346 : isAggT Tryz.prog 346 = some false := by kernel_rfl
@[simp] theorem zc346 : zcells Tryz.prog 346 = some [(.nilf, false)] := by kernel_rfl
@[simp] theorem zt346 : zeroT Tryz.prog 346 = true := by kernel_rfl
@[simp] theorem sz348 : sizeT Tryz.prog 348 = 1 := by kernel_rfl
@[simp] theorem ag348 : isAggT Tryz.prog 348 = some false := by kernel_rfl
@[simp] theorem zc348 : zcells Tryz.prog 348 = some [(.nilf, false)] := by kernel_rfl
@[simp] theorem zt348 : zeroT Tryz.prog 348 = true := by kernel_rfl
@[simp] theorem sz349 : sizeT Tryz.prog 349 = 1 := by kernel_rfl
@[simp] theorem ag349 : isAggT Tryz.prog 349 = some false := by kernel_rfl
@[simp] theorem zc349 : zcells Tryz.prog 349 = some [(.int .i64 0, false)] := by kernel_rfl
@[simp] theorem zt349 : zeroT Tryz.prog 349 = true := by kernel_rfl
@[simp] theorem sz351 : sizeT Tryz.prog 351 = 1 := by kernel_rfl
@[simp] theorem ag351 : isAggT Tryz.prog 351 = some false := by kernel_rfl
@[simp] theorem zc351 : zcells Tryz.prog 351 = some [(.nilf, false)] := by kernel_rfl
@[simp] theorem zt351 : zeroT Tryz.prog 351 = true := by kernel_rfl
@[simp] theorem sz352 : sizeT Tryz.prog 352 = 1 := by kernel_rfl
@[simp] theorem ag352 : isAggT Tryz.prog 352 = some false := by kernel_rfl
@[simp] theorem zc352 : zcells Tryz.prog 352 = some [(.nilp, false)] := by kernel_rfl
@[simp] theorem zt352 : zeroT Tryz.prog 352 = true := by kernel_rfl
@[simp] theorem sz353 : sizeT Tryz.prog 353 = 1 := by kernel_rfl
@[simp] theorem ag353 : isAggT Tryz.prog 353 = some false := by kernel_rfl
@[simp] theorem zc353 : zcells Tryz.prog 353 = some [(.nilf, false)] := by kernel_rfl
@[simp] theorem zt353 : zeroT Tryz.prog 353 = true := by kernel_rfl
@[simp] theorem sz354 : sizeT Tryz.prog 354 = 1 := by kernel_rfl
@[simp] theorem ag354 : isAggT Tryz.prog 354 = some false := by kernel_rfl
@[simp] theorem zc354 : zcells Tryz.prog 354 = some [(.nilf, false)] := by kernel_rfl
@[simp] theorem zt354 : zeroT Tryz.prog 354 = true := by kernel_rfl
@[simp] theorem sz355 : sizeT Tryz.prog 355 = 1 := by kernel_rfl
@[simp] theorem ag355 : isAggT Tryz.prog 355 = some false := by kernel_rfl
@[simp] theorem zc355 : zcells Tryz.prog 355 = some [(.nilf, false)] := by kernel_rfl
@[simp] theorem zt355 : zeroT Tryz.prog 355 = true := by kernel_rfl
@[simp] theorem sz356 : sizeT Tryz.prog 356 = 1 := by kernel_rfl
@[simp] theorem ag356 : isAggT Tryz.prog 356 = some false := by kernel_rfl
@[simp] theorem zc356 : zcells Tryz.prog 356 = some [(.nilf, false)] := by kernel_rfl
@[simp] theorem zt356 : zeroT Tryz.prog 356 = true := by kernel_rfl
@[simp] theorem sz357 : sizeT Tryz.prog 357 = 1 := by kernel_rfl
@[simp] theorem ag357 : isAggT Tryz.prog 357 = some false := by kernel_rfl
@[simp] theorem zc357 : zcells Tryz.prog 357 = some [(.nilf, false)] := by kernel_rfl
@[simp] theorem zt357 : zeroT Tryz.prog 357 = true := by kernel_rfl
@[simp] theorem sz358 : sizeT Tryz.prog 358 = 20 := by kernel_rfl
@[simp] theorem ag358 : isAggT Tryz.prog 358 = some true := by kernel_rfl
@[simp] theorem zc358 : zcells Tryz.prog 358 = some [(.int .u64 0, false), (.int .u64 0, false), (.int .u64 0, false), (.int .u64 0, false), (.int .u64 0, false), (.int .u64 0, false), (.int .u64 0, false), (.int .u64 0, false), (.int .u64 0, false), (.int .u64 0, false), (.int .u64 0, false), (.int .u64 0, false), (.int .u64 0, false), (.int .u64 0, false), (.int .u64 0, false), (.int .u64 0, false), (.int .u64 0, false), (.int .u64 0, false), (.int .u64 0, false), (.int .u64 0, false)] := by kernel_rfl
@[simp] theorem zt358 : zeroT Tryz.prog 358 = true := by kernel_rfl
@[simp] theorem sz361 : sizeT Tryz.prog 361 = 1 := by kernel_rfl
@[simp] theorem ag361 : isAggT Tryz.prog 361 = some false := by kernel_rfl
@[simp] theorem zc361 : zcells Tryz.prog 361 = some [(.nilf, false)] := by kernel_rfl
@[simp] theorem zt361 : zeroT Tryz.prog 361 = true := by kernel_rfl
@[simp] theorem sz362 : sizeT Tryz.prog 362 = 3 := by kernel_rfl
@[simp] theorem ag362 : isAggT Tryz.prog 362 = some true := by kernel_rfl
@[simp] theorem zt362 : zeroT Tryz.prog 362 = true := by kernel_rfl
@[simp] theorem fa362_0 (x : AVal) : afield Tryz.prog 362 x 0 = ashift 0 x := by kernel_rfl
@[simp] theorem fv362_0 (cs : List AVal) : afieldv Tryz.prog 362 (.agg cs) 0 = cs[0]? := by kernel_rfl
@[simp] theorem fa362_1 (x : AVal) : afield Tryz.prog 362 x 1 = ashift 1 x := by kernel_rfl
@[simp] theorem fv362_1 (cs : List AVal) : afieldv Tryz.prog 362 (.agg cs) 1 = cs[1]? := by kernel_rfl
@[simp] theorem fa362_2 (x : AVal) : afield Tryz.prog 362 x 2 = ashift 2 x := by kernel_rfl
@[simp] theorem sz363 : sizeT Tryz.prog 363 = 3 := by kernel_rfl
@[simp] theorem ag363 : isAggT Tryz.prog 363 = some true := by kernel_rfl
@[simp] theorem zt363 : zeroT Tryz.prog 363 = true := by kernel_rfl
@[simp] theorem fa363_0 (x : AVal) : afield Tryz.prog 363 x 0 = ashift 0 x := by kernel_rfl
@[simp] theorem fv363_0 (cs : List AVal) : afieldv Tryz.prog 363 (.agg cs) 0 = cs[0]? := by kernel_rfl
@[simp] theorem fa363_1 (x : AVal) : afield Tryz.prog 363 x 1 = ashift 1 x := by kernel_rfl
@[simp] theorem fv363_1 (cs : List AVal) : afieldv Tryz.prog 363 (.agg cs) 1 = cs[1]? := by kernel_rfl
@[simp] theorem fa363_2 (x : AVal) : afield Tryz.prog 363 x 2 = ashift 2 x := by kernel_rfl
@[simp] theorem sz364 : sizeT Tryz.prog 364 = 1 := by kernel_rfl
@[simp] theorem ag364 : isAggT Tryz.prog 364 = some false := by kernel_rfl
@[simp] theorem zc364 : zcells Tryz.prog 364 = some [(.nilf, false)] := by kernel_rfl
@[simp] theorem zt364 : zeroT Tryz.prog 364 = true := by kernel_rfl
@[simp] theorem sz365 : sizeT Tryz.prog 365 = 1 := by kernel_rfl
@[simp] theorem ag365 : isAggT Tryz.prog 365 = some false := by kernel_rfl
@[simp] theorem zc365 : zcells Tryz.prog 365 = some [(.nilf, false)] := by kernel_rfl
@[simp] theorem zt365 : zeroT Tryz.prog 365 = true := by kernel_rfl
@[simp] theorem sz366 : sizeT Tryz.prog 366 = 1 := by kernel_rfl
@[simp] theorem ag366 : isAggT Tryz.prog 366 = some false := by kernel_rfl
@[simp] theorem zc366 : zcells Tryz.prog 366 = some [(.nilp, false)] := by kernel_rfl
@[simp] theorem zt366 : zeroT Tryz.prog 366 = true := by kernel_rfl
@[simp] theorem sz367 : sizeT Tryz.prog 367 = 1 := by kernel_rfl
@[simp] theorem ag367 : isAggT Tryz.prog 367 = some true := by kernel_rfl
@[simp] theorem zc367 : zcells Tryz.prog 367 = some [(.str ByteArray.empty, false)] := by kernel_rfl
@[simp] theorem zt367 : zeroT Tryz.prog 367 = true := by kernel_rfl
@[simp] theorem fa367_0 (x : AVal) : afield Tryz.prog 367 x 0 = ashift 0 x := by kernel_rfl
@[simp] theorem fv367_0 (cs : List AVal) : afieldv Tryz.prog 367 (.agg cs) 0 = cs[0]? := by kernel_rfl
@[simp] theorem bd367 (nl : Bool) (ps : List (Nat × AVal)) : abuild Tryz.prog nl 367 ps = afillL [(0, 1)] (if nl then [.str ByteArray.empty] else [.str ByteArray.empty]) ps := by cases nl <;> kernel_rfl
@[simp] theorem sz368 : sizeT Tryz.prog 368 = 1 := by kernel_rfl
@[simp] theorem ag368 : isAggT Tryz.prog 368 = some true := by kernel_rfl
@[simp] theorem zc368 : zcells Tryz.prog 368 = some [(.str ByteArray.empty, false)] := by kernel_rfl
@[simp] theorem zt368 : zeroT Tryz.prog 368 = true := by kernel_rfl
@[simp] theorem fa368_0 (x : AVal) : afield Tryz.prog 368 x 0 = ashift 0 x := by kernel_rfl
@[simp] theorem fv368_0 (cs : List AVal) : afieldv Tryz.prog 368 (.agg cs) 0 = cs[0]? := by kernel_rfl
@[simp] theorem bd368 (nl : Bool) (ps : List (Nat × AVal)) : abuild Tryz.prog nl 368 ps = afillL [(0, 1)] (if nl then [.str ByteArray.empty] else [.str ByteArray.empty]) ps := by cases nl <;> kernel_rfl
@[simp] theorem sz369 : sizeT Tryz.prog 369 = 32 := by kernel_rfl
@[simp] theorem ag369 : isAggT Tryz.prog 369 = some true := by kernel_rfl
@[simp] theorem zc369 : zcells Tryz.prog 369 = some [(.int .u8 0, false), (.int .u8 0, false), (.int .u8 0, false), (.int .u8 0, false), (.int .u8 0, false), (.int .u8 0, false), (.int .u8 0, false), (.int .u8 0, false), (.int .u8 0, false), (.int .u8 0, false), (.int .u8 0, false), (.int .u8 0, false), (.int .u8 0, false), (.int .u8 0, false), (.int .u8 0, false), (.int .u8 0, false), (.int .u8 0, false), (.int .u8 0, false), (.int .u8 0, false), (.int .u8 0, false), (.int .u8 0, false), (.int .u8 0, false), (.int .u8 0, false), (.int .u8 0, false), (.int .u8 0, false), (.int .u8 0, false), (.int .u8 0, false), (.int .u8 0, false), (.int .u8 0, false), (.int .u8 0, false), (.int .u8 0, false), (.int .u8 0, false)] := by kernel_rfl
@[simp] theorem zt369 : zeroT Tryz.prog 369 = true := by kernel_rfl
@[simp] theorem sz371 : sizeT Tryz.prog 371 = 4 := by kernel_rfl
@[simp] theorem ag371 : isAggT Tryz.prog 371 = some true := by kernel_rfl
@[simp] theorem zt371 : zeroT Tryz.prog 371 = true := by kernel_rfl
@[simp] theorem sz372 : sizeT Tryz.prog 372 = 4 := by kernel_rfl
@[simp] theorem ag372 : isAggT Tryz.prog 372 = some true := by kernel_rfl
@[simp] theorem zt372 : zeroT Tryz.prog 372 = true := by kernel_rfl
@[simp] theorem sz373 : sizeT Tryz.prog 373 = 0 := by kernel_rfl
@[simp] theorem ag373 : isAggT Tryz.prog 373 = some true := by kernel_rfl
@[simp] theorem zc373 : zcells Tryz.prog 373 = some [] := by kernel_rfl
@[simp] theorem zt373 : zeroT Tryz.prog 373 = true := by kernel_rfl
@[simp] theorem sz374 : sizeT Tryz.prog 374 = 0 := by kernel_rfl
@[simp] theorem ag374 : isAggT Tryz.prog 374 = some true := by kernel_rfl
@[simp] theorem zt374 : zeroT Tryz.prog 374 = true := by kernel_rfl
@[simp] theorem sz375 : sizeT Tryz.prog 375 = 0 := by kernel_rfl
@[simp] theorem ag375 : isAggT Tryz.prog 375 = some true := by kernel_rfl
@[simp] theorem zt375 : zeroT Tryz.prog 375 = true := by kernel_rfl
@[simp] theorem sz376 : sizeT Tryz.prog 376 = 1 := by kernel_rfl
@[simp] theorem ag376 : isAggT Tryz.prog 376 = some false := by kernel_rfl
@[simp] theorem zc376 : zcells Tryz.prog 376 = some [(.int .u8 0, false)] := by kernel_rfl
@[simp] theorem zt376 : zeroT Tryz.prog 376 = true := by kernel_rfl
@[simp] theorem sz377 : sizeT Tryz.prog 377 = 1 := by kernel_rfl
@[simp] theorem ag377 : isAggT Tryz.prog 377 = some false := by kernel_rfl
@[simp] theorem zc377 : zcells Tryz.prog 377 = some [(.int .u8 0, false)] := by kernel_rfl
@[simp] theorem zt377 : zeroT Tryz.prog 377 = true := by kernel_rfl
@[simp] theorem sz378 : sizeT Tryz.prog 378 = 1 := by kernel_rfl
@[simp] theorem ag378 : isAggT Tryz.prog 378 = some false := by kernel_rfl
@[simp] theorem zc378 : zcells Tryz.prog 378 = some [(.nilf, false)] := by kernel_rfl
@[simp] theorem zt378 : zeroT Tryz.prog 378 = true := by kernel_rfl
@[simp] theorem sz379 : sizeT Tryz.prog 379 = 1 := by kernel_rfl
@[simp] theorem ag379 : isAggT Tryz.prog 379 = some false := by kernel_rfl
@[simp] theorem zc379 : zcells Tryz.prog 379 = some [(.int .i32 0, false)] := by kernel_rfl
@[simp] theorem zt379 : zeroT Tryz.prog 379 = true := by kernel_rfl
@[simp] theorem sz380 : sizeT Tryz.prog 380 = 1 := by kernel_rfl
@[simp] theorem ag380 : isAggT Tryz.prog 380 = some false := by kernel_rfl
@[simp] theorem zc380 : zcells Tryz.prog 380 = some [(.int .i32 0, false)] := by kernel_rfl
@[simp] theorem zt380 : zeroT Tryz.prog 380 = true := by kernel_rfl
@[simp] theorem sz381 : sizeT Tryz.prog 381 = 11 := by kernel_rfl
@[simp] theorem ag381 : isAggT Tryz.prog 381 = some true := by kernel_rfl
@[simp] theorem zc381 : zcells Tryz.prog 381 = some [(.int .u64 0, false), (.int .u64 0, false), (.int .u32 0, false), (.int .u8 0, false), (.int .u8 0, false), (.int .u8 0, false), (.int .u8 0, false), (.nilf, false), (.nilp, false), (.int .i32 0, false), (.int .i32 0, false)] := by kernel_rfl
@[simp] theorem zt381 : zeroT Tryz.prog 381 = true := by kernel_rfl
@[simp] theorem fa381_0 (x : AVal) : afield Tryz.prog 381 x 0 = ashift 0 x := by kernel_rfl
@[simp] theorem fv381_0 (cs : List AVal) : afieldv Tryz.prog 381 (.agg cs) 0 = cs[0]? := by kernel_rfl
@[simp] theorem fa381_1 (x : AVal) : afield Tryz.prog 381 x 1 = ashift 1 x := by kernel_rfl
@[simp] theorem fv381_1 (cs : List AVal) : afieldv Tryz.prog 381 (.agg cs) 1 = cs[1]? := by kernel_rfl
@[simp] theorem fa381_2 (x : AVal) : afield Tryz.prog 381 x 2 = ashift 2 x := by kernel_rfl
@[simp] theorem fv381_2 (cs : List AVal) : afieldv Tryz.prog 381 (.agg cs) 2 = cs[2]? := by kernel_rfl
@[simp] theorem fa381_3 (x : AVal) : afield Tryz.prog 381 x 3 = ashift 3 x := by kernel_rfl
@[simp] theorem fv381_3 (cs : List AVal) : afieldv Tryz.prog 381 (.agg cs) 3 = cs[3]? := by kernel_rfl
@[simp] theorem fa381_4 (x : AVal) : afield Tryz.prog 381 x 4 = ashift 4 x := by kernel_rfl
@[simp] theorem fv381_4 (cs : List AVal) : afieldv Tryz.prog 381 (.agg cs) 4 = cs[4]? := by kernel_rfl
@[simp] theorem fa381_5 (x : AVal) : afield Tryz.prog 381 x 5 = ashift 5 x := by kernel_rfl
@[simp] theorem fv381_5 (cs : List AVal) : afieldv Tryz.prog 381 (.agg cs) 5 = cs[5]? := by kernel_rfl
@[simp] theorem fa381_6 (x : AVal) : afield Tryz.prog 381 x 6 = ashift 6 x := by kernel_rfl
@[simp] theorem fv381_6 (cs : List AVal) : afieldv Tryz.prog 381 (.agg cs) 6 = cs[6]? := by kernel_rfl
@[simp] theorem fa381_7 (x : AVal) : afield Tryz.prog 381 x 7 = ashift 7 x := by kernel_rfl
@[simp] theorem fv381_7 (cs : List AVal) : afieldv Tryz.prog 381 (.agg cs) 7 = cs[7]? := by kernel_rfl
@[simp] theorem fa381_8 (x : AVal) : afield Tryz.prog 381 x 8 = ashift 8 x := by kernel_rfl
@[simp] theorem fv381_8 (cs : List AVal) : afieldv Tryz.prog 381 (.agg cs) 8 = cs[8]? := by kernel_rfl
@[simp] theorem fa381_9 (x : AVal) : afield Tryz.prog 381 x 9 = ashift 9 x := by kernel_rfl
@[simp] theorem fv381_9 (cs : List AVal) : afieldv Tryz.prog 381 (.agg cs) 9 = cs[9]? := by kernel_rfl
@[simp] theorem fa381_10 (x : AVal) : afield Tryz.prog 381 x 10 = ashift 10 x := by kernel_rfl
@[simp] theorem fv381_10 (cs : List AVal) : afieldv Tryz.prog 381 (.agg cs) 10 = cs[10]? := by kernel_rfl
@[simp] theorem bd381 (nl : Bool) (ps : List (Nat × AVal)) : abuild Tryz.prog nl 381 ps = afillL [(0, 1), (1, 1), (2, 1), (3, 1), (4, 1), (5, 1), (6, 1), (7, 1), (8, 1), (9, 1), (10, 1)] (if nl then [.int .u64 0, .int .u64 0, .int .u32 0, .int .u8 0, .int .u8 0, .int .u8 0, .int .u8 0, .nilf, .nilp, .int .i32 0, .int .i32 0] else [.int .u64 0, .int .u64 0, .int .u32 0, .int .u8 0, .int .u8 0, .int .u8 0, .int .u8 0, .nilf, .nilp, .int .i32 0, .int .i32 0]) ps := by cases nl <;> kernel_rfl
@[simp] theorem sz382 : sizeT Tryz.prog 382 = 11 := by kernel_rfl
@[simp] theorem ag382 : isAggT Tryz.prog 382 = some true := by kernel_rfl
@[simp] theorem zc382 : zcells Tryz.prog 382 = some [(.int .u64 0, false), (.int .u64 0, false), (.int .u32 0, false), (.int .u8 0, false), (.int .u8 0, false), (.int .u8 0, false), (.int .u8 0, false), (.nilf, false), (.nilp, false), (.int .i32 0, false), (.int .i32 0, false)] := by kernel_rfl
@[simp] theorem zt382 : zeroT Tryz.prog 382 = true := by kernel_rfl
@[simp] theorem fa382_0 (x : AVal) : afield Tryz.prog 382 x 0 = ashift 0 x := by kernel_rfl
@[simp] theorem fv382_0 (cs : List AVal) : afieldv Tryz.prog 382 (.agg cs) 0 = cs[0]? := by kernel_rfl
@[simp] theorem fa382_1 (x : AVal) : afield Tryz.prog 382 x 1 = ashift 1 x := by kernel_rfl
@[simp] theorem fv382_1 (cs : List AVal) : afieldv Tryz.prog 382 (.agg cs) 1 = cs[1]? := by kernel_rfl
@[simp] theorem fa382_2 (x : AVal) : afield Tryz.prog 382 x 2 = ashift 2 x := by kernel_rfl
@[simp] theorem fv382_2 (cs : List AVal) : afieldv Tryz.prog 382 (.agg cs) 2 = cs[2]? := by kernel_rfl
@[simp] theorem fa382_3 (x : AVal) : afield Tryz.prog 382 x 3 = ashift 3 x := by kernel_rfl
@[simp] theorem fv382_3 (cs : List AVal) : afieldv Tryz.prog 382 (.agg cs) 3 = cs[3]? := by kernel_rfl
@[simp] theorem fa382_4 (x : AVal) : afield Tryz.prog 382 x 4 = ashift 4 x := by kernel_rfl
@[simp] theorem fv382_4 (cs : List AVal) : afieldv Tryz.prog 382 (.agg cs) 4 = cs[4]? := by kernel_rfl
@[simp] theorem fa382_5 (x : AVal) : afield Tryz.prog 382 x 5 = ashift 5 x := by kernel_rfl
@[simp] theorem fv382_5 (cs : List AVal) : afieldv Tryz.prog 382 (.agg cs) 5 = cs[5]? := by kernel_rfl
@[simp] theorem fa382_6 (x : AVal) : afield Tryz.prog 382 x 6 = ashift 6 x := by kernel_rfl
@[simp] theorem fv382_6 (cs : List AVal) : afieldv Tryz.prog 382 (.agg cs) 6 = cs[6]? := by kernel_rfl
@[simp] theorem fa382_7 (x : AVal) : afield Tryz.prog 382 x 7 = ashift 7 x := by kernel_rfl
@[simp] theorem fv382_7 (cs : List AVal) : afieldv Tryz.prog 382 (.agg cs) 7 = cs[7]? := by kernel_rfl
@[simp] theorem fa382_8 (x : AVal) : afield Tryz.prog 382 x 8 = ashift 8 x := by kernel_rfl
@[simp] theorem fv382_8 (cs : List AVal) : afieldv Tryz.prog 382 (.agg cs) 8 = cs[8]? := by kernel_rfl
@[simp] theorem fa382_9 (x : AVal) : afield Tryz.prog 382 x 9 = ashift 9 x := by kernel_rfl
@[simp] theorem fv382_9 (cs : List AVal) : afieldv Tryz.prog 382 (.agg cs) 9 = cs[9]? := by kernel_rfl
@[simp] theorem fa382_10 (x : AVal) : afield Tryz.prog 382 x 10 = ashift 10 x := by kernel_rfl
@[simp] theorem fv382_10 (cs : List AVal) : afieldv Tryz.prog 382 (.agg cs) 10 = cs[10]? := by kernel_rfl
@[simp] theorem bd382 (nl : Bool) (ps : List (Nat × AVal)) : abuild Tryz.prog nl 382 ps = afillL [(0, 1), (1, 1), (2, 1), (3, 1), (4, 1), (5, 1), (6, 1), (7, 1), (8, 1), (9, 1), (10, 1)] (if nl then [.int .u64 0, .int .u64 0, .int .u32 0, .int .u8 0, .int .u8 0, .int .u8 0, .int .u8 0, .nilf, .nilp, .int .i32 0, .int .i32 0] else [.int .u64 0, .int .u64 0, .int .u32 0, .int .u8 0, .int .u8 0, .int .u8 0, .int .u8 0, .nilf, .nilp, .int .i32 0, .int .i32 0]) ps := by cases nl <;> kernel_rfl
end Go.Proofs.YtleimfinniclgaaGreatDoor.M
/- The machine for this program: what each kind of function is, the contracts from outside. -/
namespace Go.Proofs.YtleimfinniclgaaGreatDoor.M
open Go.Proofs
/-- Functions that write their arguments, or return what they made. -/
def openFs : List FuncId := [73, 37, 76, 54, 36, 74, 153, 72, 81, 18, 163, 86, 87, 169, 170, 161, 107]
/-- Functions that write their arguments and make variables of their own. -/
def tidyFs : List FuncId := [9, 10]
/-- Functions that change nothing, but look at the heap. -/
def stillFs : List FuncId := [160, 80, 17, 162, 185, 187, 106]
/-- Functions with arrays that change. -/
def muFs : List (FuncId × List TypeId) := [(72, [26]), (9, [26]), (19, [37])]
def nameExt : List AVal → Option AVal
  | [.str s] => some (.bool (X.nameB s))
  | _ => none
def repeatExt : List AVal → Option AVal
  | [.str s, .int .i64 n] => if 0 ≤ n ∧ n < 1000 ∧ s.size < 1000 then some (.str ⟨((List.replicate n.toNat s.data.toList).flatten).toArray⟩) else none
  | _ => none
def compactF (xs : List (List UInt8)) : List (List UInt8) := Lib.compact xs ++ List.replicate (xs.length - (Lib.compact xs).length) []
def moreExt : CallF := orExt (keysExt 162 241) (orExt (rowExt 86 decS encSA (fun xs => xs.mergeSort leS) (.tup []) (fun _ _ => .tup [])) (rowExt 87 decS encSA compactF (.lst []) (fun id xs => .sl id 0 (Lib.compact xs).length 1 false)))
noncomputable def K : Cfg := { P := Tryz.prog, pure := fun f => !(openFs.contains f || tidyFs.contains f), tidy := fun f => tidyFs.contains f, mu := fun f => (muFs.lookup f).getD [], val := fun f => !stillFs.contains f, ext := orExt (pureExt 88 nameExt) (orExt (pureExt 78 nameExt) (orExt (pureExt 75 repeatExt) moreExt)) }
@[simp] theorem K_P : K.P = Tryz.prog := rfl
theorem ext_R (f : FuncId) (args : List AVal) (ro nx : Nat) (hp : Heap) (a : AVal) (hv : K.vl f = true) (hi : idsLts 0 args = true) (h : K.ext f args 0 0 [] = some ⟨a, false, 0, []⟩) (ha : a.idsLt 0 = true) : R K f args ro nx hp = some ⟨a, false, nx, hp⟩ := by
  have hp0 := vl_pure hv
  have hl : low K f 0 0 = 0 := by unfold low; rw [if_pos hp0]
  rw [R_eq]
  unfold vlc Fin core
  rw [if_pos hv, if_pos hi]
  dsimp only
  rw [if_pos hp0, hl, h]
  simp [ha]
@[simp] theorem isName_R (s : ByteArray) (ro nx : Nat) (hp : Heap) : R K 88 [.str s] ro nx hp = some ⟨.bool (X.nameB s), false, nx, hp⟩ := ext_R _ _ ro nx hp _ rfl (by simp) rfl (by simp)
@[simp] theorem name_R (s : ByteArray) (ro nx : Nat) (hp : Heap) : R K 78 [.str s] ro nx hp = some ⟨.bool (X.nameB s), false, nx, hp⟩ := ext_R _ _ ro nx hp _ rfl (by simp) rfl (by simp)
theorem repeat_R (s : ByteArray) (n : Int) (h : 0 ≤ n ∧ n < 1000 ∧ s.size < 1000) (ro nx : Nat) (hp : Heap) : ∃ t, R K 75 [.str s, .int .i64 n] ro nx hp = some ⟨.str t, false, nx, hp⟩ := by
  refine ⟨_, ext_R _ _ ro nx hp (.str ⟨((List.replicate n.toNat s.data.toList).flatten).toArray⟩) rfl (by simp) ?_ (by simp)⟩
  show orExt (pureExt 88 nameExt) (orExt (pureExt 78 nameExt) (orExt (pureExt 75 repeatExt) moreExt)) 75 [.str s, .int .i64 n] 0 0 [] = _
  simp [orExt, pureExt, repeatExt, if_pos h]
end Go.Proofs.YtleimfinniclgaaGreatDoor.M
/- The contracts from outside are right. -/
namespace Go.Proofs.YtleimfinniclgaaGreatDoor.M
open Go.Proofs Go.Proofs.YtleimfinniclgaaGreatDoor.X Go.RowKit Go.Maps Go.Sort
set_option linter.unusedSimpArgs false
set_option linter.unusedVariables false
set_option maxRecDepth 100000
theorem repeatL_flat (l : List UInt8) (c : Nat) : Lib.repeatL l c = (List.replicate c l).flatten := by
  induction c with
  | zero => rfl
  | succ c ih => rw [Lib.repeatL, ih, List.replicate_succ, List.flatten_cons]
theorem name_good (f0 : FuncId) {fn : Func} {c : Code} (hf : (Tryz.prog).funcs[f0]? = some fn) (hb : fn.body = some c) (hname : fn.name ≠ "runtime.NumGoroutine")
    (hc : ∀ (s : ByteArray) (w : World), Calls Tryz.prog f0 #[.string s] w fun e w' => e = .returned (.bool (nameB s)) ∧ Below w.heap.size w w') : GoodCall Tryz.prog (pureExt f0 nameExt) := by
  refine pureExt_good f0 nameExt hf hb hname fun args a ha C vs hl _ hr => ?_
  unfold nameExt at ha
  split at ha
  · rename_i s
    cases ha
    match vs, hl with
    | [v], _ =>
      have hv := (hr 0 _ v rfl rfl).str_inv
      subst hv
      exact Calls.mono (hc s C.w) fun e w' h => ⟨_, h.1, h.2, fun D _ _ => .bool _⟩
  · cases ha
theorem repeat_good : GoodCall Tryz.prog (pureExt 75 repeatExt) := by
  refine pureExt_good 75 repeatExt Tryz.func75 rfl (by decide) fun args a ha C vs hl _ hr => ?_
  unfold repeatExt at ha
  split at ha
  · rename_i s n
    split at ha
    · rename_i hn
      cases ha
      match vs, hl with
      | [v, u], _ =>
        have hv := (hr 0 _ v rfl rfl).str_inv
        have hu := (hr 1 _ u rfl rfl).int_inv
        subst hv hu
        obtain ⟨c, rfl⟩ : ∃ c : Nat, n = c := ⟨n.toNat, by omega⟩
        have hm : s.size * c ≤ 1000 * 1000 := Nat.mul_le_mul (by omega) (by omega)
        refine Calls.mono (Tryz.strings_Repeat s c C.w (by omega) (by omega)) fun e w' h => ⟨_, h.1, h.2, fun D _ _ => ?_⟩
        rw [show Lib.repeatL s.data.toList c = (List.replicate (c : Int).toNat s.data.toList).flatten from repeatL_flat _ _]
        exact .str _
    · cases ha
  · cases ha
theorem sorted_good : GoodCall Tryz.prog (keysExt 162 241) := by
  refine keysExt_good _ _ 9 9 (by kernel_rfl) Tryz.func162 rfl (by decide) fun Bm b nn D0 R w hBm hm hown h1 h2 => ?_
  have hsort : ∀ m, AnyZ.SortsIn Tryz.prog Tryz.sorted162_ren Fence.wide m := fun m =>
    ⟨fun blk off cap ss W hH hblk hsz => callsIn_wide.2 (Tryz.slices_Sort_string blk off cap ss W hH hblk hsz), fun p cap W => callsIn_wide.2 (Tryz.slices_Sort_string_none p cap W)⟩
  have hseq := AnyZ.keys_gives (ρ := Tryz.keys163_ren) { Tryz.keys163 with } Fence.wide 2 trivial rfl (by omega) Bm b nn D0 w hBm hm hown
  have h := AnyZ.sorted_in Tryz.sorted162 Fence.wide 5 trivial trivial trivial trivial rfl (by omega) (hsort _) (enters_of Tryz.func86 (by kernel_rfl) rfl) 241 #[.pointer (some ⟨Bm, 0, none⟩)] trivial (enters_of Tryz.func241 (by kernel_rfl) rfl) _ _ h1 h2 _ hseq
  refine Calls.mono (callsIn_wide.1 h) fun e w' he => ?_
  obtain ⟨v, ss, q1, q2, q3, _, q5⟩ := he
  exact ⟨v, ss, q1, q2, q3, q5⟩
theorem sortS_good : GoodCall Tryz.prog (rowExt 86 decS encSA (fun xs => xs.mergeSort leS) (.tup []) (fun _ _ => .tup [])) := by
  refine rowExt_good _ decS encSA encStr _ _ (fun _ _ => .tuple #[]) _ (fun _ _ _ => .tuple #[]) Tryz.func86 rfl (by decide) decS_spec encSA_rv encSA_inv (fun _ => rfl) (fun p cap W => Tryz.slices_Sort_string_none p cap W) (fun C p cap _ => ?_) (fun blk cap zs W hH hb _ hl _ => ?_) (fun D id cap zs _ => ?_)
  · exact .tup [] [] rfl fun i a v h => by simp at h
  · refine Calls.mono (Tryz.slices_Sort_string blk 0 cap zs W hH hb (by omega)) fun e w' he => ?_
    obtain ⟨q1, k, os, q2⟩ := he
    exact ⟨q1, k, os, q2⟩
  · exact .tup [] [] rfl fun i a v h => by simp at h
theorem compS_good : GoodCall Tryz.prog (rowExt 87 decS encSA compactF (.lst []) (fun id xs => .sl id 0 (Lib.compact xs).length 1 false)) := by
  refine rowExt_good _ decS encSA encStr _ _ (fun p cap => .slice p 0 cap) _ (fun blk zs cap => .slice (some ⟨blk, 0, none⟩) (Lib.compact zs).length cap) Tryz.func87 rfl (by decide) decS_spec encSA_rv encSA_inv (fun _ => rfl) (fun p cap W => Tryz.slices_Compact_string_empty p cap W) (fun C p cap h => h) (fun blk cap zs W hH hb _ hl hc => ?_) (fun D id cap zs h => ?_)
  · refine Calls.mono (Tryz.slices_Compact_string blk 0 cap zs W hH (by omega) hc) fun e w' he => ?_
    obtain ⟨q1, q, q2⟩ := he
    exact ⟨q1, q, #[], by rw [q2]; simp [compactF]⟩
  · have hle : (Lib.compact zs).length ≤ zs.length := by
      unfold Lib.compact Lib.compactUpTo
      rw [List.length_map]
      exact Nat.le_trans (List.length_filter_le _ _) (by simp)
    cases h with
    | sl id off len sz c ag h1 h2 h3 => exact .sl id 0 _ 1 cap false h1 (by omega) h3
theorem more_good : GoodCall Tryz.prog moreExt := orExt_good sorted_good (orExt_good sortS_good compS_good)
theorem more_safe : RoCall moreExt := orExt_safe (keysExt_safe _ _) (orExt_safe (rowExt_safe _ _ _ _ _ _) (rowExt_safe _ _ _ _ _ _))
theorem ext_good : GoodCall Tryz.prog K.ext := orExt_good (name_good 88 Tryz.func88 rfl (by decide) isName_calls) (orExt_good (name_good 78 Tryz.func78 rfl (by decide) name_calls) (orExt_good repeat_good more_good))
theorem ext_safe : RoCall K.ext := orExt_safe (pureExt_safe _ _) (orExt_safe (pureExt_safe _ _) (orExt_safe (pureExt_safe _ _) more_safe))
end Go.Proofs.YtleimfinniclgaaGreatDoor.M
/- Generators: the stream, in plain words. -/
namespace Go.Proofs.YtleimfinniclgaaGreatDoor.M
open Go.Proofs
set_option linter.unusedSimpArgs false
set_option linter.unusedVariables false
set_option maxRecDepth 100000
set_option pp.deepTerms false
set_option pp.deepTerms.threshold 6
set_option maxHeartbeats 4000000
def ints' (xs : List Int) : List AVal := xs.map (.int .i64)
def strm (l : List Int) (at_ : Int) : ABlk := .cells [(.lst (ints' l), false), (.int .i64 at_, false)]
@[simp] theorem hset_hset (hp : Heap) (s : Nat) (b c : ABlk) : hset (hset hp s b) s c = hset hp s c := by
  induction hp with
  | nil => rfl
  | cons p hp ih =>
    obtain ⟨i, x⟩ := p
    by_cases h : s = i
    · simp [hset, h]
    · simp [hset, h, ih]
theorem hget_hset_same (hp : Heap) (s : Nat) (b : ABlk) : hget (hset hp s b) s = if (hget hp s).isSome = true then some b else none := by rw [hget_hset, if_pos rfl]
theorem wrap_small {n : Int} (h0 : -9223372036854775808 ≤ n) (h1 : n < 9223372036854775808) : IntKind.i64.wrap n = n := by
  unfold IntKind.wrap
  simp [IntKind.bits, IntKind.signed]
  omega
def belowF (x n : Int) : Int := if n < 1 then 0 else x % n
theorem tmod_fix (x n : Int) (h : ¬ n < 1) : (if x.tmod n < 0 then x.tmod n + n else x.tmod n) = x % n := by
  rw [Int.tmod_eq_emod]
  have h1 := Int.emod_nonneg x (show n ≠ 0 by omega)
  have h2 := Int.emod_lt_of_pos x (show 0 < n by omega)
  have h3 : (n.natAbs : Int) = n := by omega
  split
  · split <;> omega
  · split <;> omega
@[simp] theorem below_R (x n : Int) (hn : n < 9223372036854775808) (ro nx : Nat) (hp : Heap) : R K 154 [.int .i64 x, .int .i64 n] ro nx hp = some ⟨.int .i64 (belowF x n), false, nx, hp⟩ := by
  unfold belowF
  rw [R_val' K ro 154 _ nx hp [] Tryz.func154 rfl Tryz.ntmps154 Tryz.results154 (mu := []) rfl (by kernel_rfl) rfl rfl]; simp only [slim, slimO, annO, List.map, List.zip, List.zipWith, List.lookup, holed, Nat.reduceBEq]
  by_cases h : n < 1
  · simp [List.replicate, h]
  · have h0 : n ≠ 0 := by omega
    have hf := tmod_fix x n h
    simp [List.replicate, h, h0]
    split
    · rename_i hx
      have hw : IntKind.i64.wrap (x.tmod n + n) = x.tmod n + n := by
        have := Int.tmod_lt_of_pos x (show 0 < n by omega)
        have := Int.lt_tmod_of_pos x (show 0 < n by omega)
        exact wrap_small (by omega) (by omega)
      rw [if_pos hx] at hf
      rw [hf] at hw
      simp [hw, hf]
    · rename_i hx
      rw [if_neg hx] at hf
      simp [hf]
/-- What the stream's next number is. -/
def nextF (l : List Int) (a n : Int) : Int := if l = [] then belowF (IntKind.i64.wrap ((a + 1) * 7919)) n else
  belowF (IntKind.i64.wrap (belowF (l.getD (a.tmod l.length).toNat 0) 1073741824 + IntKind.i64.wrap (IntKind.i64.wrap (a.tdiv l.length) * IntKind.i64.wrap (7919 + a.tmod l.length)))) n
theorem next_R (l : List Int) (a n : Int) (s ro nx : Nat) (hp : Heap) (ha : 0 ≤ a ∧ a < 4611686018427387904) (hn : n < 4611686018427387904) (hl : l.length < 4611686018427387904) (hs : hget hp s = some (strm l a)) (hro : ro ≤ s) :
    R K 73 [.ptr s 0, .int .i64 n] ro nx hp = some ⟨.int .i64 (nextF l a n), false, nx, hset hp s (strm l (a + 1))⟩ := by
  have hn' : n < 9223372036854775808 := by omega
  unfold nextF
  rw [R_body' K ro 73 _ nx hp [] Tryz.func73 rfl Tryz.ntmps73 Tryz.results73 (mu := []) rfl (by kernel_rfl) rfl rfl rfl]; simp only [slim, slimO, annO, List.map, List.zip, List.zipWith, List.lookup, holed, Nat.reduceBEq]
  simp only [strm] at hs
  have hw : IntKind.i64.wrap (a + 1) = a + 1 := wrap_small (by omega) (by omega)
  have hg : hget (hset hp s (ABlk.cells [(.lst (ints' l), false), (.int .i64 (a + 1), false)])) s = some (ABlk.cells [(.lst (ints' l), false), (.int .i64 (a + 1), false)]) := by rw [hget_hset_same]; simp [hs]
  have hlen : (ints' l).length = l.length := by simp [ints']
  simp [List.replicate, strm, hs, hw, hro, hg, hlen]
  by_cases hl0 : l = []
  · subst hl0
    simp [hn', below_R]
  · have hpos : 0 < l.length := List.length_pos_iff.2 hl0
    have hne : ¬ (l.length : Int) = 0 := by omega
    have hw2 : IntKind.i64.wrap a = a := wrap_small (by omega) (by omega)
    have hm0 : 0 ≤ a.tmod l.length := Int.tmod_nonneg _ ha.1
    have hm1 : a.tmod l.length < l.length := Int.tmod_lt_of_pos _ (by omega)
    have hq0 : 0 ≤ a.tdiv l.length := Int.tdiv_nonneg ha.1 (by omega)
    have hx : (ints' l)[(a.tmod l.length).toNat]? = some (.int .i64 (l.getD (a.tmod l.length).toNat 0)) := by
      unfold ints'
      rw [List.getElem?_map, List.getElem?_eq_getElem (show (a.tmod l.length).toNat < l.length by omega), List.getD_eq_getElem?_getD, List.getElem?_eq_getElem (show (a.tmod l.length).toNat < l.length by omega)]
      rfl
    simp [hl0, hg, hw2, hlen, hne, hn', below_R, hm0, hx]
theorem belowF_range (x n : Int) : (1 ≤ n → 0 ≤ belowF x n ∧ belowF x n < n) ∧ (n < 1 → belowF x n = 0) := by
  unfold belowF
  constructor
  · intro h
    rw [if_neg (by omega)]
    exact ⟨Int.emod_nonneg _ (by omega), Int.emod_lt_of_pos _ (by omega)⟩
  · intro h; rw [if_pos h]
theorem nextF_range (l : List Int) (a n : Int) : (1 ≤ n → 0 ≤ nextF l a n ∧ nextF l a n < n) ∧ (n < 1 → nextF l a n = 0) := by
  unfold nextF
  split
  · exact belowF_range _ _
  · exact belowF_range _ _
theorem flip_R (l : List Int) (a n : Int) (s ro nx : Nat) (hp : Heap) (ha : 0 ≤ a ∧ a < 4611686018427387904) (hn : n < 4611686018427387904) (hl : l.length < 4611686018427387904) (hs : hget hp s = some (strm l a)) (hro : ro ≤ s) :
    R K 37 [.ptr s 0, .int .i64 n] ro nx hp = some ⟨.bool (nextF l a n == 0), false, nx, hset hp s (strm l (a + 1))⟩ := by
  have h1 := next_R l a n s ro nx hp ha hn hl hs hro
  rw [R_body' K ro 37 _ nx hp [] Tryz.func37 rfl Tryz.ntmps37 Tryz.results37 (mu := []) rfl (by kernel_rfl) rfl rfl rfl]; simp only [slim, slimO, annO, List.map, List.zip, List.zipWith, List.lookup, holed, Nat.reduceBEq]
  simp [List.replicate, h1]
theorem range_R (l : List Int) (a lo hi : Int) (s ro nx : Nat) (hp : Heap) (ha : 0 ≤ a ∧ a < 4611686018427387904) (h1 : -1073741824 < lo ∧ lo < 1073741824) (h2 : -1073741824 < hi ∧ hi < 1073741824) (hlh : lo ≤ hi) (hl : l.length < 4611686018427387904) (hs : hget hp s = some (strm l a)) (hro : ro ≤ s) :
    R K 76 [.ptr s 0, .int .i64 lo, .int .i64 hi] ro nx hp = some ⟨.int .i64 (lo + nextF l a (hi - lo + 1)), false, nx, hset hp s (strm l (a + 1))⟩ := by
  have hN := next_R l a (hi - lo + 1) s ro nx hp ha (by omega) hl hs hro
  have hw1 : IntKind.i64.wrap (hi - lo) = hi - lo := wrap_small (by omega) (by omega)
  have hw2 : IntKind.i64.wrap (hi - lo + 1) = hi - lo + 1 := wrap_small (by omega) (by omega)
  have hr := (nextF_range l a (hi - lo + 1)).1 (by omega)
  have hw3 : IntKind.i64.wrap (lo + nextF l a (hi - lo + 1)) = lo + nextF l a (hi - lo + 1) := wrap_small (by omega) (by omega)
  have hnl : ¬ hi < lo := by omega
  rw [R_body' K ro 76 _ nx hp [] Tryz.func76 rfl Tryz.ntmps76 Tryz.results76 (mu := []) rfl (by kernel_rfl) rfl rfl rfl]; simp only [slim, slimO, annO, List.map, List.zip, List.zipWith, List.lookup, holed, Nat.reduceBEq]
  simp [List.replicate, hN, hw1, hw2, hw3, hnl]
def pickF (l : List Int) (a : Int) (ls : List Int) : Int := ls.getD (nextF l a ls.length).toNat 0
theorem pick_R (l : List Int) (a : Int) (ls : List Int) (s ro nx : Nat) (hp : Heap) (ha : 0 ≤ a ∧ a < 4611686018427387904) (h1 : 1 ≤ ls.length ∧ ls.length < 1073741824) (hl : l.length < 4611686018427387904) (hs : hget hp s = some (strm l a)) (hro : ro ≤ s) :
    R K 54 [.ptr s 0, .lst (ints' ls)] ro nx hp = some ⟨.int .i64 (pickF l a ls), false, nx, hset hp s (strm l (a + 1))⟩ := by
  have hN := next_R l a ls.length s ro nx hp ha (by omega) hl hs hro
  have hr := (nextF_range l a ls.length).1 (by omega)
  have hlen : (ints' ls).length = ls.length := by simp [ints']
  have hx : (ints' ls)[(nextF l a ls.length).toNat]? = some (.int .i64 (pickF l a ls)) := by
    unfold ints' pickF
    rw [List.getElem?_map, List.getElem?_eq_getElem (show (nextF l a ls.length).toNat < ls.length by omega), List.getD_eq_getElem?_getD, List.getElem?_eq_getElem (show (nextF l a ls.length).toNat < ls.length by omega)]
    rfl
  rw [R_body' K ro 54 _ nx hp [] Tryz.func54 rfl Tryz.ntmps54 Tryz.results54 (mu := []) rfl (by kernel_rfl) rfl rfl rfl]; simp only [slim, slimO, annO, List.map, List.zip, List.zipWith, List.lookup, holed, Nat.reduceBEq]
  simp [List.replicate, hlen, hN, hr.1, hx]
def strs (xs : List ByteArray) : List AVal := xs.map .str
def someF (l : List Int) (a : Int) (ls : List ByteArray) : ByteArray := ls.getD (nextF l a ls.length).toNat ByteArray.empty
theorem some_R (l : List Int) (a : Int) (ls : List ByteArray) (s ro nx : Nat) (hp : Heap) (ha : 0 ≤ a ∧ a < 4611686018427387904) (h1 : 1 ≤ ls.length ∧ ls.length < 1073741824) (hl : l.length < 4611686018427387904) (hs : hget hp s = some (strm l a)) (hro : ro ≤ s) :
    R K 36 [.ptr s 0, .lst (strs ls)] ro nx hp = some ⟨.str (someF l a ls), false, nx, hset hp s (strm l (a + 1))⟩ := by
  have hN := next_R l a ls.length s ro nx hp ha (by omega) hl hs hro
  have hr := (nextF_range l a ls.length).1 (by omega)
  have hlen : (strs ls).length = ls.length := by simp [strs]
  have hx : (strs ls)[(nextF l a ls.length).toNat]? = some (.str (someF l a ls)) := by
    unfold strs someF
    rw [List.getElem?_map, List.getElem?_eq_getElem (show (nextF l a ls.length).toNat < ls.length by omega), List.getD_eq_getElem?_getD, List.getElem?_eq_getElem (show (nextF l a ls.length).toNat < ls.length by omega)]
    rfl
  rw [R_body' K ro 36 _ nx hp [] Tryz.func36 rfl Tryz.ntmps36 Tryz.results36 (mu := []) rfl (by kernel_rfl) rfl rfl rfl]; simp only [slim, slimO, annO, List.map, List.zip, List.zipWith, List.lookup, holed, Nat.reduceBEq]
  simp [List.replicate, hlen, hN, hr.1, hx]
def oddF (l : List Int) (a lo hi : Int) : Int × Int := if nextF l a 12 = 0 then (pickF l (a + 1) [lo - 1, hi + 1, lo, hi, -1099511627776, 1099511627776], a + 2) else (lo + nextF l (a + 1) (hi - lo + 1), a + 2)
theorem odd_R (l : List Int) (a lo hi : Int) (s ro nx : Nat) (hp : Heap) (ha : 0 ≤ a ∧ a < 4611686018427387900) (h1 : -1073741824 < lo ∧ lo < 1073741823) (h2 : -1073741824 < hi ∧ hi < 1073741823) (hlh : lo ≤ hi) (hl : l.length < 4611686018427387904) (hs : hget hp s = some (strm l a)) (hro : ro ≤ s) :
    R K 74 [.ptr s 0, .int .i64 lo, .int .i64 hi] ro nx hp = some ⟨.int .i64 (oddF l a lo hi).1, false, nx, hset hp s (strm l (a + 2))⟩ := by
  have hF := flip_R l a 12 s ro nx hp (by omega) (by omega) hl hs hro
  have hg : hget (hset hp s (strm l (a + 1))) s = some (strm l (a + 1)) := by rw [hget_hset_same]; simp [hs]
  have hP := pick_R l (a + 1) [lo - 1, hi + 1, lo, hi, -1099511627776, 1099511627776] s ro nx _ (by omega) (by simp) hl hg hro
  have hR := range_R l (a + 1) lo hi s ro nx _ (by omega) (by omega) (by omega) hlh hl hg hro
  have hw1 : IntKind.i64.wrap (lo - 1) = lo - 1 := wrap_small (by omega) (by omega)
  have hw2 : IntKind.i64.wrap (hi + 1) = hi + 1 := wrap_small (by omega) (by omega)
  have e2 : a + 1 + 1 = a + 2 := by omega
  simp only [ints', List.map_cons, List.map_nil] at hP
  unfold oddF
  rw [R_body' K ro 74 _ nx hp [] Tryz.func74 rfl Tryz.ntmps74 Tryz.results74 (mu := []) rfl (by kernel_rfl) rfl rfl rfl]; simp only [slim, slimO, annO, List.map, List.zip, List.zipWith, List.lookup, holed, Nat.reduceBEq]
  by_cases h0 : nextF l a 12 = 0
  · simp [List.replicate, hF, h0, hw1, hw2, hP, e2]
  · simp [List.replicate, hF, h0, hR, e2]
end Go.Proofs.YtleimfinniclgaaGreatDoor.M
/- Heaps of records that stand in trees: what is made of them when they are frozen. -/
namespace Go.Proofs.YtleimfinniclgaaGreatDoor.M
set_option linter.unusedVariables false
set_option linter.unusedSimpArgs false

/-- What a cell holds: a number, a truth, a string, a list of records of a kind. -/
inductive CK where
  | int | bool | str
  | row (k : Nat)
structure Rec where
  ag : Bool
  cs : List CK
structure Recs where
  of : Nat → Rec
  /-- Lists of these records are arrays that change (but empty ones). -/
  live : Nat → Bool
  most : Nat
  pos : ∀ k, 0 < (of k).cs.length
  one : ∀ k, (of k).ag = false → (of k).cs.length = 1
/-- A value without addresses. -/
inductive Fr (T : Recs) : CK → AVal → Prop where
  | int (n : Int) : Fr T .int (.int .i64 n)
  | bool (b : Bool) : Fr T .bool (.bool b)
  | str (s : ByteArray) : Fr T .str (.str s)
  | row (k : Nat) (xs : List AVal) (hl : ∀ x, x ∈ xs → x.flat.length = (T.of k).cs.length) (ha : ∀ x, x ∈ xs → if (T.of k).ag then ∃ cs, x = .agg cs else x.one = true)
      (h : ∀ x, x ∈ xs → ∀ (j : Nat) c u, (T.of k).cs[j]? = some c → x.flat[j]? = some u → Fr T c u) : Fr T (.row k) (.lst xs)
theorem Fr.one {T : Recs} {c : CK} {v : AVal} (h : Fr T c v) : v.one = true := by cases h <;> rfl
theorem Fr.unS {T : Recs} {c : CK} {v : AVal} (h : Fr T c v) : unS v = (v, false) := by cases h <;> rfl
theorem idsLts_of {n : Nat} {l : List AVal} (h : ∀ x, x ∈ l → x.idsLt n = true) : idsLts n l = true := by
  induction l with
  | nil => simp
  | cons x r ih => simp only [idsLts_cons, Bool.and_eq_true]; exact ⟨h x (.head _), ih fun y hy => h y (.tail _ hy)⟩
theorem idsLts_mem {n : Nat} {l : List AVal} (h : idsLts n l = true) : ∀ x, x ∈ l → x.idsLt n = true := by
  induction l with
  | nil => intro x hx; cases hx
  | cons y r ih =>
    simp only [idsLts_cons, Bool.and_eq_true] at h
    intro x hx
    cases hx with
    | head => exact h.1
    | tail _ hx => exact ih h.2 x hx
theorem flat_idsT {n : Nat} {x : AVal} (h : ∀ u, u ∈ x.flat → u.idsLt n = true) : x.idsLt n = true := by
  cases x with
  | agg cs => simp only [idsLt_agg]; exact idsLts_of h
  | _ => exact h _ (by simp [AVal.flat])
theorem Fr.ids {T : Recs} {c : CK} {v : AVal} (h : Fr T c v) (n : Nat) : v.idsLt n = true := by
  induction h with
  | int n => simp
  | bool b => simp
  | str s => simp
  | row k xs hl ha h ih =>
    simp only [idsLt_lst]
    refine idsLts_of fun x hx => flat_idsT fun u hu => ?_
    obtain ⟨j, hj, he⟩ := List.getElem_of_mem hu
    have hj' : j < (T.of k).cs.length := by rw [← hl x hx]; exact hj
    exact ih x hx j _ u (List.getElem?_eq_getElem hj') (by rw [List.getElem?_eq_getElem hj, he])
/-- A value that leads nowhere. -/
def Leaf (T : Recs) (c : CK) (v : AVal) : Prop := Fr T c v ∧ ∀ k xs, c = .row k → v = .lst xs → T.live k = true → xs = []
theorem Leaf.int {T : Recs} (n : Int) : Leaf T .int (.int .i64 n) := ⟨.int n, fun k xs h => by cases h⟩
theorem Leaf.bool {T : Recs} (b : Bool) : Leaf T .bool (.bool b) := ⟨.bool b, fun k xs h => by cases h⟩
theorem Leaf.str {T : Recs} (b : ByteArray) : Leaf T .str (.str b) := ⟨.str b, fun k xs h => by cases h⟩
theorem Leaf.nil {T : Recs} (k : Nat) : Leaf T (.row k) (.lst []) := ⟨.row k [] (fun x hx => by cases hx) (fun x hx => by cases hx) (fun x hx => by cases hx), fun k xs h e _ => by injection e with e; exact e.symm⟩
/-- A heap of such records: what kinds of records a variable has, and its rank. -/
structure Kd where
  kind : Nat → Nat → Prop
  rank : Nat → Nat
/-- A value in such a heap: its lists rank below r. -/
inductive Hv (T : Recs) (G : Kd) (hp : Heap) (r : Nat) : CK → AVal → Prop where
  | fr {c : CK} {v : AVal} (h : Leaf T c v) : Hv T G hp r c v
  | sl (k id m len : Nat) (cs : List Cell) (hk : G.kind id k) (hr : G.rank id < r) (hg : hget hp id = some (.cells cs)) (hl : (m + len) * (T.of k).cs.length ≤ cs.length) : Hv T G hp r (.row k) (.sl id (m * (T.of k).cs.length) len (T.of k).cs.length (T.of k).ag)
theorem Hv.one {T : Recs} {G : Kd} {hp : Heap} {r : Nat} {c : CK} {v : AVal} (h : Hv T G hp r c v) : v.one = true := by
  cases h with
  | fr h => exact h.1.one
  | sl => rfl
theorem Hv.up {T : Recs} {G : Kd} {hp : Heap} {r r' : Nat} {c : CK} {v : AVal} (h : Hv T G hp r c v) (hr : r ≤ r') : Hv T G hp r' c v := by
  cases h with
  | fr h => exact .fr h
  | sl k id m len cs hk hr' hg hl => exact .sl k id m len cs hk (by omega) hg hl
/-- All variables with a kind hold records of it. -/
structure Forest (T : Recs) (G : Kd) (lo : Nat) (hp : Heap) : Prop where
  lo : ∀ id k, G.kind id k → lo ≤ id
  cells : ∀ id k cs, G.kind id k → hget hp id = some (.cells cs) → ∀ (j : Nat) (c : Cell) t, cs[j]? = some c → (T.of k).cs[j % (T.of k).cs.length]? = some t → Hv T G hp (G.rank id) t c.1
theorem mapO_some {f : AVal → Option AVal} (Q : Nat → AVal → Prop) : ∀ (l : List AVal) (i : Nat), (∀ (j : Nat) v, l[j]? = some v → ∃ u, f v = some u ∧ Q (i + j) u) → ∃ us, mapO f l = some us ∧ us.length = l.length ∧ ∀ (j : Nat) u, us[j]? = some u → Q (i + j) u := by
  intro l
  induction l with
  | nil => intro i h; exact ⟨[], rfl, rfl, fun j u hu => by simp at hu⟩
  | cons v l ih =>
    intro i h
    obtain ⟨u, h1, h2⟩ := h 0 v rfl
    obtain ⟨us, h3, h4, h5⟩ := ih (i + 1) fun j v hv => by
      obtain ⟨u, q1, q2⟩ := h (j + 1) v (by simpa using hv)
      exact ⟨u, q1, by rw [show i + 1 + j = i + (j + 1) by omega]; exact q2⟩
    refine ⟨u :: us, by simp only [mapO, h1, h3], by simp [h4], fun j w hw => ?_⟩
    cases j with
    | zero => simp at hw; subst hw; exact h2
    | succ j => rw [show i + (j + 1) = i + 1 + j by omega]; exact h5 j w (by simpa using hw)
theorem chunks_mem {sz : Nat} : ∀ (n : Nat) (us : List AVal) (x : AVal), us.length = n * sz → x ∈ chunks sz n us → ∃ i, i < n ∧ x = .agg ((us.drop (i * sz)).take sz) := by
  intro n
  induction n with
  | zero => intro us x _ hx; simp [chunks] at hx
  | succ n ih =>
    intro us x hl hx
    simp only [chunks, List.mem_cons] at hx
    rcases hx with rfl | hx
    · exact ⟨0, by omega, by simp⟩
    · obtain ⟨i, hi, rfl⟩ := ih (us.drop sz) x (by rw [List.length_drop, hl, Nat.succ_mul]; omega) hx
      exact ⟨i + 1, by omega, by rw [List.drop_drop, Nat.succ_mul, Nat.add_comm sz]⟩
theorem hv_fz {T : Recs} {G : Kd} {lo : Nat} {hp : Heap} (F : Forest T G lo hp) : ∀ (r : Nat) (c : CK) (v : AVal), Hv T G hp r c v → ∃ u, fz lo hp r v = some u ∧ Fr T c u := by
  intro r
  induction r with
  | zero =>
    intro c v h
    cases h with
    | fr h => exact ⟨v, by simp only [fz]; rw [if_pos (h.1.ids lo)], h.1⟩
    | sl k id m len cs hk hr hg hl => omega
  | succ r ih =>
    intro c v h
    cases h with
    | fr h => exact ⟨v, by simp only [fz]; rw [if_pos (h.1.ids lo)], h.1⟩
    | sl k id m len cs hk hr hg hl =>
      have hlo := F.lo id k hk
      have hpos := T.pos k
      have hone := T.one k
      have hcells := F.cells id k cs hk hg
      generalize hsz : (T.of k).cs.length = sz at *
      have hmul : (m + len) * sz = m * sz + len * sz := Nat.add_mul m len sz
      obtain ⟨us, h1, h2, h3⟩ := mapO_some (f := fz lo hp r) (fun j u => ∀ t, (T.of k).cs[j % sz]? = some t → Fr T t u) (((cs.drop (m * sz)).take (len * sz)).map (·.1)) 0 fun j w hw => by
        rw [List.getElem?_map] at hw
        obtain ⟨c, hc, rfl⟩ := Option.map_eq_some_iff.1 hw
        rw [List.getElem?_take] at hc
        split at hc
        · rename_i hj
          rw [List.getElem?_drop] at hc
          obtain ⟨t, ht⟩ : ∃ t, (T.of k).cs[j % sz]? = some t := ⟨_, List.getElem?_eq_getElem (by rw [hsz]; exact Nat.mod_lt _ hpos)⟩
          have hv := hcells (m * sz + j) c t hc (by rw [Nat.mul_add_mod_self_right]; exact ht)
          obtain ⟨u, q1, q2⟩ := ih t c.1 (hv.up (by omega))
          exact ⟨u, q1, fun t' ht' => by rw [Nat.zero_add, ht] at ht'; injection ht' with e; subst e; exact q2⟩
        · cases hc
      have hlen : us.length = len * sz := by
        rw [h2, List.length_map, List.length_take, List.length_drop]; omega
      refine ⟨.lst (chop (T.of k).ag sz len us), ?_, ?_⟩
      · have e : fz lo hp (r + 1) (.sl id (m * sz) len sz (T.of k).ag) = fzv lo hp (fz lo hp r) (.sl id (m * sz) len sz (T.of k).ag) := by
          rw [fz]
          rw [if_neg (by simp only [idsLt_sl, decide_eq_true_eq]; omega)]
        rw [e, fzv]
        simp only [hg]
        rw [if_pos ⟨hlo, hpos, by cases h : (T.of k).ag <;> simp [hone, h], by omega⟩, h1]
        rfl
      · have key : ∀ x, x ∈ chop (T.of k).ag sz len us → x.flat.length = sz ∧ (if (T.of k).ag then ∃ cs, x = .agg cs else x.one = true) ∧ ∀ (j : Nat) c u, (T.of k).cs[j]? = some c → x.flat[j]? = some u → Fr T c u := by
          intro x hx
          unfold chop at hx
          cases hag : (T.of k).ag with
          | true =>
            rw [hag, if_pos rfl] at hx
            obtain ⟨i, hi, rfl⟩ := chunks_mem len us x hlen hx
            have hm : i * sz + sz ≤ len * sz := by rw [← Nat.succ_mul]; exact Nat.mul_le_mul_right sz hi
            refine ⟨by simp only [AVal.flat, List.length_take, List.length_drop]; omega, by simp, fun j c u hc hu => ?_⟩
            have hj : j < sz := by rw [← hsz]; exact (List.getElem?_eq_some_iff.1 hc).1
            simp only [AVal.flat] at hu
            rw [List.getElem?_take, if_pos hj, List.getElem?_drop] at hu
            have := h3 (i * sz + j) u hu c
            rw [Nat.zero_add, Nat.mul_add_mod_self_right, Nat.mod_eq_of_lt hj] at this
            exact this hc
          | false =>
            rw [hag] at hx
            simp only [Bool.false_eq_true, if_false] at hx
            have hz := hone hag
            obtain ⟨i, hi, he⟩ := List.getElem_of_mem hx
            have hu := h3 i x (by rw [List.getElem?_eq_getElem hi, he])
            rw [hz, Nat.mod_one] at hu
            have hfr := hu _ (List.getElem?_eq_getElem (show 0 < (T.of k).cs.length by omega))
            have hflat : x.flat = [x] := by
              have := hfr.one
              cases x <;> first | rfl | exact Bool.noConfusion this
            refine ⟨by rw [hflat]; simp [hz], by simpa using hfr.one, fun j c u hc hj => ?_⟩
            rw [hflat] at hj
            cases j with
            | zero => simp at hj; subst hj; exact hu c hc
            | succ j => simp at hj
        exact .row k _ (fun x hx => by rw [(key x hx).1, hsz]) (fun x hx => (key x hx).2.1) (fun x hx => (key x hx).2.2)
theorem hv_FZ {T : Recs} {G : Kd} {lo : Nat} {hp : Heap} (F : Forest T G lo hp) {r : Nat} {c : CK} {v : AVal} (h : Hv T G hp r c v) : ∃ u, FZ lo hp v = some u ∧ Fr T c u := by
  obtain ⟨u, h1, h2⟩ := hv_fz F r c v h
  exact ⟨u, FZ_iff.2 ⟨r, h1⟩, h2⟩
/-! ### New variables over old ones -/
def Fresh (n : Nat) (hp : Heap) : Prop := hlow n hp = hp
theorem hget_hlow' (n : Nat) (h : Heap) (j : Nat) : hget (hlow n h) j = if j < n then hget h j else none := by
  induction h with
  | nil => simp [hlow, hget]
  | cons p h ih =>
    obtain ⟨i, b⟩ := p
    rw [hlow_cons]
    split
    · simp only [hget]
      by_cases e : j = i
      · subst e; simp [*]
      · simp [e, ih]
    · rw [ih]
      simp only [hget]
      by_cases e : j = i
      · subst e; simp [*]
      · simp [e]
theorem Fresh.lt {n : Nat} {hp : Heap} (h : Fresh n hp) {j : Nat} {b : ABlk} (hg : hget hp j = some b) : j < n := by
  rw [← h, hget_hlow'] at hg
  split at hg
  · assumption
  · cases hg
theorem hlow_hlow {m n : Nat} (hmn : m ≤ n) (h : Heap) : hlow m (hlow n h) = hlow m h := by
  induction h with
  | nil => rfl
  | cons p h ih =>
    obtain ⟨i, b⟩ := p
    rw [hlow_cons]
    split
    · rw [hlow_cons, hlow_cons, ih]
    · rename_i hn
      rw [hlow_cons, if_neg (by omega), ih]
theorem hlow_hset' (n i : Nat) (b : ABlk) (h : Heap) (hi : n ≤ i) : hlow n (hset h i b) = hlow n h := by
  induction h with
  | nil => rfl
  | cons p h ih =>
    obtain ⟨j, c⟩ := p
    simp only [hset]
    split
    · rename_i e; subst e; rw [hlow_cons, hlow_cons, if_neg (by omega), if_neg (by omega)]
    · rw [hlow_cons, hlow_cons, ih]
theorem Fresh.up {n m : Nat} {hp : Heap} (h : Fresh n hp) (hm : n ≤ m) : Fresh m hp := by
  unfold Fresh at h ⊢
  rw [← h, ← hlow_hlow (Nat.le_refl n) hp]
  have : ∀ hp : Heap, hlow m (hlow n hp) = hlow n hp := by
    intro hp
    induction hp with
    | nil => rfl
    | cons p h ih =>
      obtain ⟨i, b⟩ := p
      rw [hlow_cons]
      split
      · rw [hlow_cons, if_pos (by omega), ih]
      · exact ih
  rw [this]
theorem Fresh.push {n : Nat} {hp : Heap} (h : Fresh n hp) (b : ABlk) : Fresh (n + 1) ((n, b) :: hp) := by
  unfold Fresh
  rw [hlow_cons, if_pos (by omega), h.up (Nat.le_succ n)]
theorem Fresh.hset {n : Nat} {hp : Heap} (h : Fresh n hp) (i : Nat) (b : ABlk) : Fresh n (hset hp i b) := by
  unfold Fresh at h ⊢
  rw [hlow_hset, h]
theorem hlow_hdel (n i : Nat) (h : Heap) : hlow n (hdel h i) = hdel (hlow n h) i := by
  unfold hlow hdel
  rw [List.filter_filter, List.filter_filter]
  congr 1
  funext p
  exact Bool.and_comm _ _
theorem Fresh.hdel {n : Nat} {hp : Heap} (h : Fresh n hp) (i : Nat) : Fresh n (hdel hp i) := by
  unfold Fresh at h ⊢
  rw [hlow_hdel, h]
theorem hlow_hdel' (n i : Nat) (h : Heap) (hi : n ≤ i) : hlow n (hdel h i) = hlow n h := by
  unfold hlow hdel
  rw [List.filter_filter]
  congr 1
  funext p
  by_cases hp : p.1 < n
  · have : (p.1 != i) = true := by simp; omega
    simp [hp, this]
  · simp [hp]
/-- A value in a heap, the variables by their age. -/
inductive Tv (T : Recs) (hp : Heap) (lo : Nat) : Nat → CK → AVal → Prop where
  | fr {r : Nat} {c : CK} {v : AVal} (h : Leaf T c v) : Tv T hp lo r c v
  | sl (r k id m len : Nat) (cs : List Cell) (h0 : lo ≤ id) (hr : id < r) (hg : hget hp id = some (.cells cs)) (hl : (m + len) * (T.of k).cs.length ≤ cs.length) (hm : cs.length ≤ T.most)
      (hc : ∀ (j : Nat) (c : Cell) t, cs[j]? = some c → (T.of k).cs[j % (T.of k).cs.length]? = some t → Tv T hp lo id t c.1) : Tv T hp lo r (.row k) (.sl id (m * (T.of k).cs.length) len (T.of k).cs.length (T.of k).ag)
theorem Tv.keep {T : Recs} {hp hp' : Heap} {lo lo' r r' : Nat} {c : CK} {v : AVal} (h : Tv T hp lo r c v) (hlo : lo' ≤ lo) (hr : r ≤ r') (he : ∀ id, lo ≤ id → id < r → hget hp' id = hget hp id) : Tv T hp' lo' r' c v := by
  induction h generalizing r' with
  | fr h => exact .fr h
  | sl r k id m len cs h0 hr1 hg hl hm hc ih =>
    exact .sl r' k id m len cs (by omega) (by omega) (by rw [he id h0 hr1]; exact hg) hl hm fun j c t h1 h2 => ih j c t h1 h2 (Nat.le_refl _) fun i hi1 hi2 => he i hi1 (by omega)
theorem Tv.one {T : Recs} {hp : Heap} {lo r : Nat} {c : CK} {v : AVal} (h : Tv T hp lo r c v) : v.one = true := by
  cases h with
  | fr h => exact h.1.one
  | sl => rfl
theorem Tv.unS {T : Recs} {hp : Heap} {lo r : Nat} {c : CK} {v : AVal} (h : Tv T hp lo r c v) : unS v = (v, false) := by
  cases h with
  | fr h => exact h.1.unS
  | sl => rfl
/-- Variables by their age are a forest. -/
def Blk (T : Recs) (hp : Heap) (lo : Nat) (k id : Nat) : Prop := lo ≤ id ∧ ∃ cs, hget hp id = some (.cells cs) ∧ cs.length ≤ T.most ∧ ∀ (j : Nat) (c : Cell) t, cs[j]? = some c → (T.of k).cs[j % (T.of k).cs.length]? = some t → Tv T hp lo id t c.1
theorem Tv.blk {T : Recs} {hp : Heap} {lo r k : Nat} {id off len sz : Nat} {ag : Bool} (h : Tv T hp lo r (.row k) (.sl id off len sz ag)) : Blk T hp lo k id ∧ id < r := by
  cases h with
  | fr h => cases h.1
  | sl _ _ _ m _ cs h0 hr hg hl hm hc => exact ⟨⟨h0, cs, hg, hm, hc⟩, hr⟩
def Kd.age (T : Recs) (hp : Heap) (lo : Nat) : Kd := ⟨fun id k => Blk T hp lo k id, fun id => id - lo⟩
theorem Tv.hv {T : Recs} {hp : Heap} {lo r : Nat} {c : CK} {v : AVal} (h : Tv T hp lo r c v) : Hv T (Kd.age T hp lo) hp (r - lo) c v := by
  cases h with
  | fr h => exact .fr h
  | sl _ k id m len cs h0 hr hg hl hm hc => exact .sl k id m len cs ⟨h0, cs, hg, hm, hc⟩ (by show id - lo < r - lo; omega) hg hl
theorem age_forest (T : Recs) (hp : Heap) (lo : Nat) : Forest T (Kd.age T hp lo) lo hp := by
  refine ⟨fun id k h => h.1, fun id k cs hb hg j c t hj ht => ?_⟩
  obtain ⟨_, cs', hg', _, hc⟩ := hb
  rw [hg] at hg'; cases hg'
  exact (hc j c t hj ht).hv
/-! ### Changing a forest -/
theorem Hv.move {T : Recs} {G G' : Kd} {hp hp' : Heap} {r r' : Nat} {c : CK} {v : AVal} (h : Hv T G hp r c v) (hk : ∀ id k cs, G.kind id k → G.rank id < r → hget hp id = some (.cells cs) → G'.kind id k ∧ G'.rank id < r' ∧ ∃ cs', hget hp' id = some (.cells cs') ∧ cs.length ≤ cs'.length) : Hv T G' hp' r' c v := by
  cases h with
  | fr h => exact .fr h
  | sl k id m len cs hk1 hr hg hl =>
    obtain ⟨h1, h2, cs', h3, h4⟩ := hk id k cs hk1 hr hg
    exact .sl k id m len cs' h1 h2 h3 (by omega)
theorem Forest.move {T : Recs} {G : Kd} {lo : Nat} {hp hp' : Heap} (F : Forest T G lo hp) (he : ∀ id k, G.kind id k → hget hp' id = hget hp id) : Forest T G lo hp' := by
  refine ⟨F.lo, fun id k cs hk hg j c t hj ht => ?_⟩
  rw [he id k hk] at hg
  exact (F.cells id k cs hk hg j c t hj ht).move fun id k cs q1 q2 q3 => ⟨q1, q2, cs, by rw [he id k q1]; exact q3, Nat.le_refl _⟩
/-- Cells are written. -/
theorem Forest.set {T : Recs} {G : Kd} {lo : Nat} {hp : Heap} (F : Forest T G lo hp) {p : Nat} {cs : List Cell} (hg : hget hp p = some (.cells cs)) (cs' : List Cell) (hl : cs'.length = cs.length)
    (hc : ∀ k, G.kind p k → ∀ (j : Nat) (c : Cell) t, cs'[j]? = some c → (T.of k).cs[j % (T.of k).cs.length]? = some t → cs[j]? = some c ∨ Hv T G hp (G.rank p) t c.1) : Forest T G lo (hset hp p (.cells cs')) := by
  have mv : ∀ {r : Nat} {c : CK} {v : AVal}, Hv T G hp r c v → Hv T G (hset hp p (.cells cs')) r c v := fun h => h.move fun id k cs0 q1 q2 q3 => by
    by_cases e : id = p
    · subst e
      rw [hg] at q3; cases q3
      exact ⟨q1, q2, cs', by rw [hget_hset, if_pos rfl, hg]; rfl, by omega⟩
    · exact ⟨q1, q2, cs0, by rw [hget_hset, if_neg e]; exact q3, Nat.le_refl _⟩
  refine ⟨F.lo, fun id k cs0 hk hg0 j c t hj ht => ?_⟩
  rw [hget_hset] at hg0
  split at hg0
  · rename_i e
    subst e
    rw [hg] at hg0
    cases hg0
    rcases hc k hk j c t hj ht with h | h
    · exact mv (F.cells id k cs hk hg j c t h ht)
    · exact mv h
  · exact mv (F.cells id k cs0 hk hg0 j c t hj ht)
/-- A new variable between p and what it leads to. -/
def Kd.between (G : Kd) (n p k0 : Nat) : Kd := ⟨fun id k => (id = n ∧ k = k0) ∨ (id ≠ n ∧ G.kind id k), fun id => if id = n then 2 * G.rank p else 2 * G.rank id + 1⟩
theorem Hv.between {T : Recs} {G : Kd} {hp : Heap} {r : Nat} {c : CK} {v : AVal} (h : Hv T G hp r c v) {n p k0 : Nat} (hn : hget hp n = none) (b : ABlk) : Hv T (G.between n p k0) ((n, b) :: hp) (2 * r) c v := by
  refine h.move fun id k cs q1 q2 q3 => ?_
  have hne : id ≠ n := fun e => by subst e; rw [hn] at q3; cases q3
  exact ⟨.inr ⟨hne, q1⟩, by show (if id = n then _ else _) < _; rw [if_neg hne]; omega, cs, by rw [hget_cons, if_neg hne]; exact q3, Nat.le_refl _⟩
theorem Forest.between {T : Recs} {G : Kd} {lo : Nat} {hp : Heap} (F : Forest T G lo hp) {n p k0 : Nat} (hlo : lo ≤ n) (hn : hget hp n = none) {cs : List Cell} (hc : ∀ (j : Nat) (c : Cell) t, cs[j]? = some c → (T.of k0).cs[j % (T.of k0).cs.length]? = some t → Hv T G hp (G.rank p) t c.1) :
    Forest T (G.between n p k0) lo ((n, .cells cs) :: hp) := by
  refine ⟨fun id k hk => ?_, fun id k cs0 hk hg j c t hj ht => ?_⟩
  · rcases hk with ⟨rfl, _⟩ | ⟨_, h⟩
    · exact hlo
    · exact F.lo id k h
  · rcases hk with ⟨rfl, rfl⟩ | ⟨hne, hk⟩
    · rw [hget_same] at hg; cases hg
      have := (hc j c t hj ht).between (p := p) (k0 := k) hn (.cells cs)
      have e : (G.between id p k).rank id = 2 * G.rank p := if_pos rfl
      rw [e]; exact this
    · rw [hget_cons, if_neg hne] at hg
      have := (F.cells id k cs0 hk hg j c t hj ht).between (p := p) (k0 := k0) hn (.cells cs)
      have e : (G.between n p k0).rank id = 2 * G.rank id + 1 := if_neg hne
      rw [e]; exact this.up (by omega)
/-- Records are frozen. -/
theorem agg_FZ {T : Recs} {G : Kd} {lo : Nat} {hp : Heap} (F : Forest T G lo hp) (r : Nat) (cs : List AVal) (ts : List CK) (hl : cs.length = ts.length) (h : ∀ (i : Nat) c t, cs[i]? = some c → ts[i]? = some t → Hv T G hp r t c) : ∃ us, FZ lo hp (.agg cs) = some (.agg us) ∧ us.length = cs.length ∧ ∀ (i : Nat) u t, us[i]? = some u → ts[i]? = some t → Fr T t u := by
  obtain ⟨us, h1, h2, h3⟩ := mapO_some (f := fz lo hp r) (fun i u => ∀ t, ts[i]? = some t → Fr T t u) cs 0 fun j v hv => by
    obtain ⟨t, ht⟩ : ∃ t, ts[j]? = some t := ⟨_, List.getElem?_eq_getElem (by rw [← hl]; exact (List.getElem?_eq_some_iff.1 hv).1)⟩
    obtain ⟨u, q1, q2⟩ := hv_fz F r t v (h j v t hv ht)
    exact ⟨u, q1, fun t' ht' => by rw [Nat.zero_add, ht] at ht'; cases ht'; exact q2⟩
  by_cases hi : (AVal.agg cs).idsLt lo = true
  · refine ⟨cs, FZ_low hi, rfl, fun i u t hu ht => ?_⟩
    obtain ⟨u', q1, q2⟩ := hv_fz F r t u (h i u t hu ht)
    have hu' : u.idsLt lo = true := by
      simp only [idsLt_agg] at hi
      exact idsLts_mem hi u (List.mem_of_getElem? hu)
    have : u' = u := by
      cases r with
      | zero => simp only [fz] at q1; rw [if_pos hu'] at q1; cases q1; rfl
      | succ r => simp only [fz] at q1; rw [if_pos hu'] at q1; cases q1; rfl
    rw [← this]; exact q2
  · refine ⟨us, FZ_iff.2 ⟨r + 1, ?_⟩, h2, fun i u t hu ht => by have := h3 i u hu t; rw [Nat.zero_add] at this; exact this ht⟩
    have e : fz lo hp (r + 1) (.agg cs) = fzv lo hp (fz lo hp r) (.agg cs) := by rw [fz, if_neg hi]
    rw [e, fzv, h1]; rfl
theorem hclean_hlow (n : Nat) (h : Heap) : hclean n (hlow n h) = hclean n h := by
  induction h with
  | nil => rfl
  | cons p h ih =>
    obtain ⟨i, b⟩ := p
    rw [hlow_cons, hclean_cons]
    split
    · rw [hclean_cons, ih]
    · rename_i hn
      rw [ih]
      simp [hn]
end Go.Proofs.YtleimfinniclgaaGreatDoor.M
