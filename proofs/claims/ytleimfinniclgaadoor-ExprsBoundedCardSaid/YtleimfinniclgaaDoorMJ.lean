/- What simp does with the machine's code. -/
import Derived.Test.YtleimfinniclgaaDoorMI
namespace Go.Proofs.YtleimfinniclgaaDoor.M
set_option linter.unusedVariables false

def getC (tm : List Cell) (i : Nat) : Cell := (tm[i]?).getD (.bad, false)
@[simp] theorem getC_cons (c : Cell) (r : List Cell) (i : Nat) : getC (c :: r) i = ((c :: r)[i]?).getD (.bad, false) := rfl
@[simp] theorem getC_set (tm : List Cell) (i : Nat) (c : Cell) (j : Nat) : getC (tm.set i c) j = if i = j then (if i < tm.length then c else getC tm j) else getC tm j := by
  unfold getC
  rw [List.getElem?_set]
  by_cases h : i = j
  · subst h
    by_cases hl : i < tm.length
    · simp [hl]
    · simp [hl]
  · simp [h]
@[simp] theorem getC_unflag (tm : List Cell) (t j : Nat) : getC (unflag tm t) j = if t = j then ((getC tm j).1, false) else getC tm j := by
  unfold unflag
  by_cases h : t < tm.length
  · rw [List.getElem?_eq_getElem h]
    simp only [getC_set, h, if_true]
    by_cases e : t = j
    · subst e
      simp only [if_true]
      unfold getC
      rw [List.getElem?_eq_getElem h]; rfl
    · simp only [if_neg e]
  · rw [List.getElem?_eq_none (by omega)]
    by_cases e : t = j
    · subst e
      simp only [if_true]
      unfold getC
      rw [List.getElem?_eq_none (by omega)]; rfl
    · simp only [if_neg e]
@[simp] theorem unflag_len (tm : List Cell) (t : Nat) : (unflag tm t).length = tm.length := by
  unfold unflag
  split <;> simp
theorem getC_some {tm : List Cell} {i : Nat} (h : i < tm.length) : tm[i]? = some (getC tm i) := by
  unfold getC
  rw [List.getElem?_eq_getElem h]; rfl
section
variable (K : Cfg) (ro : Md) (ops : Array Oper) (d : Option Tmp) (g : Option (Nat × Bool))
@[simp] theorem O_dst (op : Op) : (O d op g).dst = d := rfl
@[simp] theorem O_op (op : Op) : (O d op g).op = op := rfl
@[simp] theorem O_guard (op : Op) : (O d op g).guard = g := rfl
/-- What an operation gives is laid into its slot. -/
def W (d : Option Tmp) (tm : List Cell) : Option Out → Option St
  | some q => some (q.put d tm)
  | none => none
@[simp] theorem W_some (d : Tmp) (tm : List Cell) (v : AVal) (own : Bool) (nx : Nat) (hp : Heap) : W (some d) tm (some ⟨v, own, none, nx, hp⟩) = some ⟨tm.set d (v, own), nx, hp⟩ := rfl
@[simp] theorem W_clr (d t : Tmp) (tm : List Cell) (v : AVal) (own : Bool) (nx : Nat) (hp : Heap) : W (some d) tm (some ⟨v, own, some t, nx, hp⟩) = some ⟨(unflag tm t).set d (v, own), nx, hp⟩ := rfl
@[simp] theorem W_no (tm : List Cell) (v : AVal) (own : Bool) (nx : Nat) (hp : Heap) : W none tm (some ⟨v, own, none, nx, hp⟩) = some ⟨tm, nx, hp⟩ := rfl
@[simp] theorem W_noclr (t : Tmp) (tm : List Cell) (v : AVal) (own : Bool) (nx : Nat) (hp : Heap) : W none tm (some ⟨v, own, some t, nx, hp⟩) = some ⟨unflag tm t, nx, hp⟩ := rfl
@[simp] theorem W_bad (tm : List Cell) : W d tm none = none := rfl
/-- A value, if there is one. -/
def V (nx : Nat) (hp : Heap) : Option AVal → Option Out
  | some v => some ⟨v, false, none, nx, hp⟩
  | none => none
@[simp] theorem V_some (nx : Nat) (hp : Heap) (v : AVal) : V nx hp (some v) = some ⟨v, false, none, nx, hp⟩ := rfl
@[simp] theorem V_none (nx : Nat) (hp : Heap) : V nx hp none = none := rfl
theorem V_map (nx : Nat) (hp : Heap) (x : Option AVal) : x.map (Out.val nx hp) = V nx hp x := by cases x <;> rfl
theorem astep_O (op : Op) (s : St) : astep K.P (R K) ops ro (O d op none) s = W d s.tm (aeff K.P (R K) ops ro (O d op none) (ev s.tm) s.nx s.hp) := by
  unfold astep awanted
  rw [show (O d op none).guard = none from rfl]
  simp only
  cases aeff K.P (R K) ops ro (O d op none) (ev s.tm) s.nx s.hp <;> rfl
@[simp] theorem gate_bool (b f w : Bool) : gate (some (.bool b, f)) w = some (b == w) := rfl
@[simp] theorem gate_tup (vs : List AVal) (f w : Bool) : gate (some (.tup vs, f)) w = some false := rfl
theorem gate_getC (tm : List Cell) (t : Nat) (w : Bool) : gate tm[t]? w = gate (some (getC tm t)) w := by
  unfold getC
  cases tm[t]? <;> rfl
def gate2 (o : Option Oper) (tm : List Cell) (w : Bool) : Option Bool := match o.bind (·.dst) with
  | some t => gate tm[t]? w
  | none => some false
@[simp] theorem gate2_some (t : Tmp) (op' : Op) (g' : Option (Nat × Bool)) (tm : List Cell) (w : Bool) : gate2 (some (O (some t) op' g')) tm w = gate (some (getC tm t)) w := gate_getC tm t w
def Gt (a b : Option St) : Option Bool → Option St
  | some q => if q then a else b
  | none => none
@[simp] theorem Gt_some (a b : Option St) (q : Bool) : Gt a b (some q) = if q then a else b := rfl
theorem astep_G (op : Op) (j : Nat) (w : Bool) (s : St) : astep K.P (R K) ops ro (O d op (some (j, w))) s = Gt (W d s.tm (aeff K.P (R K) ops ro (O d op none) (ev s.tm) s.nx s.hp)) (W d s.tm (some ⟨.tup [], false, none, s.nx, s.hp⟩)) (gate2 ops[j]? s.tm w) := by
  have : awanted ops s.tm (O d op (some (j, w))) = gate2 ops[j]? s.tm w := rfl
  unfold astep
  rw [this]
  have e : aeff K.P (R K) ops ro (O d op (some (j, w))) (ev s.tm) s.nx s.hp = aeff K.P (R K) ops ro (O d op none) (ev s.tm) s.nx s.hp := by cases op <;> rfl
  rw [e]
  cases gate2 ops[j]? s.tm w with
  | none => rfl
  | some q =>
    cases q with
    | false => rfl
    | true => simp only [Gt_some, if_true]; cases aeff K.P (R K) ops ro (O d op none) (ev s.tm) s.nx s.hp <;> rfl
@[simp] theorem OS_free (op : Op) (r : List Oper) (tm : List Cell) (nx : Nat) (hp : Heap) : OS K ops ro (O d op none :: r) (some ⟨tm, nx, hp⟩) = OS K ops ro r (W d tm (aeff K.P (R K) ops ro (O d op none) (ev tm) nx hp)) := by rw [OS_cons, astep_O]
@[simp] theorem OS_guard (op : Op) (j : Nat) (w : Bool) (r : List Oper) (tm : List Cell) (nx : Nat) (hp : Heap) :
    OS K ops ro (O d op (some (j, w)) :: r) (some ⟨tm, nx, hp⟩) = OS K ops ro r (Gt (W d tm (aeff K.P (R K) ops ro (O d op none) (ev tm) nx hp)) (W d tm (some ⟨.tup [], false, none, nx, hp⟩)) (gate2 ops[j]? tm w)) := by
  rw [OS_cons, astep_G K ro ops d op j w]
end
attribute [simp] OS_nil OS_none Y_seq Y_region Y_dregion Y_block X_skip X_exit X_ret XK_normal XK_ret XK_exit XK_none XN_some XN_none XBk_normal XBk_ret XBk_exit XR_normal XR_ret
section
variable (P : Program) (call : CallF) (ops : Array Oper) (ro : Md) (d : Option Tmp) (ρ : Rho) (nx : Nat) (hp : Heap)
@[simp] theorem amove_f (take : Bool) (t : Tmp) (v : AVal) : amove take (.tmp t) (v, false) nx hp = some ⟨v, false, none, nx, hp⟩ := rfl
@[simp] theorem amove_t (take : Bool) (t : Tmp) (v : AVal) : amove take (.tmp t) (v, true) nx hp = if take then some ⟨v, true, some t, nx, hp⟩ else some ⟨v, false, none, nx, hp⟩ := rfl
@[simp] theorem amove_c (take : Bool) (u : Value) (v : AVal) (b : Bool) : amove take (.const u) (v, b) nx hp = some ⟨v, b, none, nx, hp⟩ := rfl
@[simp] theorem amove_fn (take : Bool) (f : FuncId) (v : AVal) (b : Bool) : amove take (.func f) (v, b) nx hp = some ⟨v, false, none, nx, hp⟩ := rfl
@[simp] theorem D_move (x : Operand) : aeff P call ops ro (O d (.move x) none) ρ nx hp = amove (feeds ops d) x (ρ x) nx hp := rfl
@[simp] theorem D_assign (t : Tmp) : aeff P call ops ro (O d (.assign (.tmp t)) none) ρ nx hp = amove (makes ops t) (.tmp t) (ρ (.tmp t)) nx hp := rfl
@[simp] theorem D_assignC (v : Value) : aeff P call ops ro (O d (.assign (.const v)) none) ρ nx hp = amove false (.const v) (ρ (.const v)) nx hp := rfl
@[simp] theorem D_assignF (f : FuncId) : aeff P call ops ro (O d (.assign (.func f)) none) ρ nx hp = amove false (.func f) (ρ (.func f)) nx hp := rfl
def Pk (a b : AVal) (nx : Nat) (hp : Heap) : AVal → Option Out
  | .bool q => some ⟨if q then a else b, false, none, nx, hp⟩
  | _ => none
@[simp] theorem Pk_bool (a b : AVal) (q : Bool) : Pk a b nx hp (.bool q) = some ⟨if q then a else b, false, none, nx, hp⟩ := rfl
@[simp] theorem D_pick (c a b : Operand) : aeff P call ops ro (O d (.pick c a b) none) ρ nx hp = Pk (ρ a).1 (ρ b).1 nx hp (ρ c).1 := by
  show aeff0 P ops ro (O d (.pick c a b) none) ρ nx hp = _
  unfold aeff0
  simp only [O]
  cases (ρ c).1 <;> rfl
/-- A variable's first cells. -/
def zcells (P : Program) (t : TypeId) : Option (List Cell) := match (P.info? t).bind (·.zero) with
  | some z => if (z.cells.toList.map ofCell).all AVal.one then some (z.cells.toList.map fun c => (ofCell c, isNil c)) else none
  | none => none
def Al (nx : Nat) (hp : Heap) : Option (List Cell) → Option Out
  | some cs => some ⟨.ptr nx 0, false, none, nx + 1, (nx, .cells cs) :: hp⟩
  | none => none
@[simp] theorem Al_some (cs : List Cell) : Al nx hp (some cs) = some ⟨.ptr nx 0, false, none, nx + 1, (nx, .cells cs) :: hp⟩ := rfl
@[simp] theorem D_alloc (t : TypeId) : aeff P call ops ro (O d (.alloc t) none) ρ nx hp = Al nx hp (zcells P t) := by
  show aeff0 P ops ro (O d (.alloc t) none) ρ nx hp = _
  unfold aeff0 zcells
  simp only [O]
  cases (P.info? t).bind (·.zero) with
  | none => rfl
  | some z => simp only; split <;> rfl
@[simp] theorem D_box (t : TypeId) (x : Operand) : aeff P call ops ro (O d (.box t x) none) ρ nx hp = if (ρ x).1.flat.all AVal.one then some ⟨.ptr nx 0, false, none, nx + 1, (nx, .cells ((ρ x).1.flat.map fun v => (v, false))) :: hp⟩ else none := rfl
@[simp] theorem D_build (t : TypeId) (ps : Array (Nat × Operand)) : aeff P call ops ro (O d (.build t ps) none) ρ nx hp = V nx hp (abuild P (stored ops d) t (ps.toList.map fun p => (p.1, (ρ p.2).1))) := by rw [← V_map]; rfl
@[simp] theorem D_load (t : TypeId) (a : Operand) : aeff P call ops ro (O d (.load t a) none) ρ nx hp = aload P ops ro d t (ρ a).1 nx hp := rfl
@[simp] theorem D_store (t : TypeId) (a x : Operand) : aeff P call ops ro (O d (.store t a x) none) ρ nx hp = astore P ops ro t (ρ a).1 x (ρ x) nx hp := rfl
@[simp] theorem D_binOp (op : BinOp) (t u : TypeId) (x y : Operand) : aeff P call ops ro (O d (.binOp op t x y u) none) ρ nx hp = V nx hp (abinT P t op (ρ x).1 (ρ y).1) := by rw [← V_map]; rfl
@[simp] theorem abinT_int (t : TypeId) (op : BinOp) (k k' : IntKind) (a b : Int) : abinT P t op (.int k a) (.int k' b) = abin op (.int k a) (.int k' b) := rfl
@[simp] theorem abinT_str (t : TypeId) (op : BinOp) (a b : ByteArray) : abinT P t op (.str a) (.str b) = abin op (.str a) (.str b) := rfl
@[simp] theorem abinT_beq (t : TypeId) (a b : Bool) (h : P.underlying t = some .bool) : abinT P t .eql (.bool a) (.bool b) = some (.bool (a == b)) := by simp [abinT, aeq, aeq1, h]
@[simp] theorem abinT_bne (t : TypeId) (a b : Bool) (h : P.underlying t = some .bool) : abinT P t .neq (.bool a) (.bool b) = some (.bool !(a == b)) := by simp [abinT, aeq, aeq1, h]
@[simp] theorem abinT_aeq (t : TypeId) (xs ys : List AVal) : abinT P t .eql (.agg xs) (.agg ys) = (aeq P t (.agg xs) (.agg ys)).map .bool := rfl
@[simp] theorem abinT_ane (t : TypeId) (xs ys : List AVal) : abinT P t .neq (.agg xs) (.agg ys) = (aeq P t (.agg xs) (.agg ys)).map fun b => .bool !b := rfl
@[simp] theorem D_unOp (op : UnOp) (t : TypeId) (x : Operand) : aeff P call ops ro (O d (.unOp op t x) none) ρ nx hp = V nx hp (aun op (ρ x).1) := by rw [← V_map]; rfl
@[simp] theorem D_makeFunc (f : FuncId) (a b : Array Operand) : aeff P call ops ro (O d (.makeFunc (.func f) a b) none) ρ nx hp = some ⟨.clo f (a.toList.map fun x => (ρ x).1) (b.toList.map fun x => (ρ x).1), false, none, nx, hp⟩ := rfl
@[simp] theorem D_slice (t : TypeId) (x : Operand) (lo hi mx : Option Operand) : aeff P call ops ro (O d (.slice t x lo hi mx) none) ρ nx hp = V nx hp (aslice P t (ρ x).1 (lo.map fun x => (ρ x).1) (hi.map fun x => (ρ x).1) (mx.map fun x => (ρ x).1)) := by rw [← V_map]; rfl
@[simp] theorem D_fieldAddr (t : TypeId) (x : Operand) (f : Nat) : aeff P call ops ro (O d (.fieldAddr t x f) none) ρ nx hp = V nx hp (afield P t (ρ x).1 f) := by rw [← V_map]; rfl
@[simp] theorem D_field (t : TypeId) (x : Operand) (f : Nat) : aeff P call ops ro (O d (.field t x f) none) ρ nx hp = V nx hp (afieldv P t (ρ x).1 f) := by rw [← V_map]; rfl
@[simp] theorem D_indexAddr (t : TypeId) (x i : Operand) : aeff P call ops ro (O d (.indexAddr t x i) none) ρ nx hp = V nx hp (aindexa P t (ρ x).1 (ρ i).1) := by rw [← V_map]; rfl
@[simp] theorem D_index (t : TypeId) (x i : Operand) : aeff P call ops ro (O d (.index t x i) none) ρ nx hp = V nx hp (aindex P t (ρ x).1 (ρ i).1) := by rw [← V_map]; rfl
def Xt (i : Nat) (nx : Nat) (hp : Heap) : AVal → Option Out
  | .tup vs => V nx hp vs[i]?
  | _ => none
@[simp] theorem Xt_tup (i : Nat) (vs : List AVal) : Xt i nx hp (.tup vs) = V nx hp vs[i]? := rfl
def Mm (nx : Nat) (hp : Heap) : Option TypeDesc → Option Out
  | some (.map _ _) => some ⟨.map nx, false, none, nx + 1, (nx, .map []) :: hp⟩
  | _ => none
@[simp] theorem Mm_map (k e : TypeId) : Mm nx hp (some (.map k e)) = some ⟨.map nx, false, none, nx + 1, (nx, .map []) :: hp⟩ := rfl
@[simp] theorem D_makeMap (t : TypeId) : aeff P call ops ro (O d (.makeMap t none) none) ρ nx hp = Mm nx hp (P.underlying t) := by
  show aeff0 P ops ro (O d (.makeMap t none) none) ρ nx hp = _
  unfold aeff0
  simp only [O]
  cases P.underlying t with
  | none => rfl
  | some u => cases u <;> rfl
def Ms (nx : Nat) : Option Heap → Option Out
  | some h => some ⟨.tup [], false, none, nx, h⟩
  | none => none
@[simp] theorem Ms_some (h : Heap) : Ms nx (some h) = some ⟨.tup [], false, none, nx, h⟩ := rfl
@[simp] theorem D_lookup (t : TypeId) (m k : Operand) (ok : Bool) : aeff P call ops ro (O d (.lookup t m k ok) none) ρ nx hp = V nx hp (alookup P t (ρ m).1 (ρ k).1 ok hp) := by rw [← V_map]; rfl
@[simp] theorem D_mapUpdate (t : TypeId) (m k v : Operand) : aeff P call ops ro (O d (.mapUpdate t m k v) none) ρ nx hp = Ms nx (amapset P ro.lo t (ρ m).1 (ρ k).1 (ρ v).1 hp) := by
  show Option.map _ (amapset P ro.lo t (ρ m).1 (ρ k).1 (ρ v).1 hp) = _
  cases amapset P ro.lo t (ρ m).1 (ρ k).1 (ρ v).1 hp <;> rfl
@[simp] theorem D_insert (t : TypeId) (m k v : Operand) : aeff P call ops ro (O d (.insert t m k v) none) ρ nx hp = Ms nx (amapset P ro.lo t (ρ m).1 (ρ k).1 (ρ v).1 hp) := by
  show Option.map _ (amapset P ro.lo t (ρ m).1 (ρ k).1 (ρ v).1 hp) = _
  cases amapset P ro.lo t (ρ m).1 (ρ k).1 (ρ v).1 hp <;> rfl
@[simp] theorem D_extract (x : Operand) (i : Nat) : aeff P call ops ro (O d (.extract x i) none) ρ nx hp = Xt i nx hp (ρ x).1 := by
  show aeff0 P ops ro (O d (.extract x i) none) ρ nx hp = _
  unfold aeff0
  simp only [O]
  cases (ρ x).1 <;> first | rfl | exact V_map nx hp _
def Nc (nx : Nat) (hp : Heap) : AVal → Option Out
  | .ptr i k => some ⟨.ptr i k, false, none, nx, hp⟩
  | .pel e k => some ⟨.pel e k, false, none, nx, hp⟩
  | .clo f a b => some ⟨.clo f a b, false, none, nx, hp⟩
  | _ => none
@[simp] theorem Nc_ptr (i k : Nat) : Nc nx hp (.ptr i k) = some ⟨.ptr i k, false, none, nx, hp⟩ := rfl
@[simp] theorem Nc_pel (e : AVal) (k : Nat) : Nc nx hp (.pel e k) = some ⟨.pel e k, false, none, nx, hp⟩ := rfl
@[simp] theorem Nc_clo (f : FuncId) (a b : List AVal) : Nc nx hp (.clo f a b) = some ⟨.clo f a b, false, none, nx, hp⟩ := rfl
@[simp] theorem D_nilCheck (x : Operand) : aeff P call ops ro (O d (.nilCheck x) none) ρ nx hp = Nc nx hp (ρ x).1 := by
  show aeff0 P ops ro (O d (.nilCheck x) none) ρ nx hp = _
  unfold aeff0
  simp only [O]
  cases (ρ x).1 <;> rfl
/-- A call's answer. -/
def Cr : Option Res → Option Out
  | some r => some ⟨r.v, r.own, none, r.nx, r.hp⟩
  | none => none
@[simp] theorem Cr_some (v : AVal) (own : Bool) : Cr (some ⟨v, own, nx, hp⟩) = some ⟨v, own, none, nx, hp⟩ := rfl
def Cl (call : CallF) (args : List AVal) (lo nx : Nat) (hp : Heap) : AVal → Option Out
  | .clo g fs cs => Cr (call g (fs ++ args ++ cs) lo nx hp)
  | _ => none
@[simp] theorem Cl_clo (args : List AVal) (g : FuncId) (fs cs : List AVal) (lo : Nat) : Cl call args lo nx hp (.clo g fs cs) = Cr (call g (fs ++ args ++ cs) lo nx hp) := rfl
@[simp] theorem D_call (f : Operand) (args : Array Operand) (ts : Array TypeId) : aeff P call ops ro (O d (.call { callee := .value f, args := args, argTypes := ts }) none) ρ nx hp = Cl call (args.toList.map fun x => (ρ x).1) ro.lo nx hp (ρ f).1 := by
  show acall P call ro { callee := .value f, args := args, argTypes := ts } ρ nx hp = _
  unfold acall
  simp only
  cases (ρ f).1 <;> rfl
@[simp] theorem D_len (x : Operand) (t : TypeId) : aeff P call ops ro (O d (.call { callee := .builtin .len, args := #[x], argTypes := #[t] }) none) ρ nx hp = V nx hp (alen P t (ρ x).1) := by rw [← V_map]; rfl
@[simp] theorem D_min (x y : Operand) (ts : Array TypeId) : aeff P call ops ro (O d (.call { callee := .builtin .min, args := #[x, y], argTypes := ts }) none) ρ nx hp = V nx hp (amin (ρ x).1 (ρ y).1) := by
  rw [← V_map]
  show (List.foldlM (fun a y => amin a (ρ y).1) (ρ x).1 [y]).map _ = _
  simp [List.foldlM]
@[simp] theorem D_max (x y : Operand) (ts : Array TypeId) : aeff P call ops ro (O d (.call { callee := .builtin .max, args := #[x, y], argTypes := ts }) none) ρ nx hp = V nx hp (amax (ρ x).1 (ρ y).1) := by
  rw [← V_map]
  show (List.foldlM (fun a y => amax a (ρ y).1) (ρ x).1 [y]).map _ = _
  simp [List.foldlM]
def Ap (P : Program) (t : TypeId) (t2 : TypeId) (y : AVal) (clr : Option Tmp) (nx : Nat) (hp : Heap) : Cell → Option Out
  | (.lst xs, true) => aappendO P [t, t2] xs y clr nx hp
  | _ => none
@[simp] theorem Ap_lst (t t2 : TypeId) (y : AVal) (clr : Option Tmp) (xs : List AVal) : Ap P t t2 y clr nx hp (.lst xs, true) = aappendO P [t, t2] xs y clr nx hp := rfl
def ApC (P : Program) (t : TypeId) (t2 : TypeId) (y : AVal) (nx : Nat) (hp : Heap) : Cell → Option Out
  | (.lst [], true) => aappendO P [t, t2] [] y none nx hp
  | _ => none
@[simp] theorem ApC_nil (t t2 : TypeId) (y : AVal) : ApC P t t2 y nx hp (.lst [], true) = aappendO P [t, t2] [] y none nx hp := rfl
@[simp] theorem D_append (u : Tmp) (y : Operand) (t t2 : TypeId) : aeff P call ops ro (O d (.call { callee := .builtin .append, args := #[.tmp u, y], argTypes := #[t, t2] }) none) ρ nx hp = if ro.mu.contains t then aappendM P ro.lo [t, t2] (.tmp u) (ρ (.tmp u)) (ρ y).1 nx hp else Ap P t t2 (ρ y).1 (some u) nx hp (ρ (.tmp u)) := by
  show abuiltin P ro .append #[t, t2] #[.tmp u, y] ρ nx hp = _
  unfold abuiltin
  simp only
  by_cases hm : ro.mu.contains t = true
  · rw [if_pos (show appendsAt ro.mu #[t, t2].toList = true from hm), if_pos hm]
  · rw [if_neg (show ¬ appendsAt ro.mu #[t, t2].toList = true from hm), if_neg hm]
    generalize ρ (.tmp u) = c
    obtain ⟨v, f⟩ := c
    cases v <;> cases f <;> rfl
@[simp] theorem D_appendC (u : Value) (y : Operand) (t t2 : TypeId) : aeff P call ops ro (O d (.call { callee := .builtin .append, args := #[.const u, y], argTypes := #[t, t2] }) none) ρ nx hp = if ro.mu.contains t then aappendM P ro.lo [t, t2] (.const u) (ρ (.const u)) (ρ y).1 nx hp else ApC P t t2 (ρ y).1 nx hp (ρ (.const u)) := by
  show abuiltin P ro .append #[t, t2] #[.const u, y] ρ nx hp = _
  unfold abuiltin
  simp only
  by_cases hm : ro.mu.contains t = true
  · rw [if_pos (show appendsAt ro.mu #[t, t2].toList = true from hm), if_pos hm]
  · rw [if_neg (show ¬ appendsAt ro.mu #[t, t2].toList = true from hm), if_neg hm]
    generalize ρ (.const u) = c
    obtain ⟨v, f⟩ := c
    cases v <;> cases f <;> first | rfl | (rename_i xs; cases xs <;> rfl)
@[simp] theorem seqParts_nil (i : Nat) : seqParts [] i = true := by have h : True := trivial; simp only [seqParts]
@[simp] theorem seqParts_cons (k i : Nat) (v : AVal) (r : List (Nat × AVal)) : seqParts ((k, v) :: r) i = (k == i && seqParts r (i + 1)) := by have h : True := trivial; simp only [seqParts]
def Bs (P : Program) (mu : List TypeId) (t : TypeId) (len : Nat) (xs : List (Nat × AVal)) (nx : Nat) (hp : Heap) : Option TypeDesc → Option Out
  | some (.slice e) =>
      if seqParts xs 0 ∧ xs.length = len ∧ len * sizeT P e ≤ 2 ^ 24 ∧ xs.all (fun p => p.2.flat.length == sizeT P e && p.2.flat.all AVal.one) ∧ 0 < sizeT P e ∧ zeroT P e = true then (if mu.contains t then some ⟨.sl nx 0 len (sizeT P e) ((isAggT P e).getD false), false, none, nx + 1, (nx, .cells (unown (flats (xs.map (·.2))))) :: hp⟩ else some ⟨.lst (xs.map (·.2)), true, none, nx, hp⟩) else none
  | _ => none
@[simp] theorem Bs_slice (mu : List TypeId) (t e : TypeId) (len : Nat) (xs : List (Nat × AVal)) : Bs P mu t len xs nx hp (some (.slice e)) =
      if seqParts xs 0 ∧ xs.length = len ∧ len * sizeT P e ≤ 2 ^ 24 ∧ xs.all (fun p => p.2.flat.length == sizeT P e && p.2.flat.all AVal.one) ∧ 0 < sizeT P e ∧ zeroT P e = true then (if mu.contains t then some ⟨.sl nx 0 len (sizeT P e) ((isAggT P e).getD false), false, none, nx + 1, (nx, .cells (unown (flats (xs.map (·.2))))) :: hp⟩ else some ⟨.lst (xs.map (·.2)), true, none, nx, hp⟩) else none := rfl
@[simp] theorem D_buildSlice (t : TypeId) (len : Nat) (ps : Array (Nat × Operand)) : aeff P call ops ro (O d (.buildSlice t len ps) none) ρ nx hp = Bs P ro.mu t len (ps.toList.map fun p => (p.1, (ρ p.2).1)) nx hp (P.underlying t) := by
  show aeff0 P ops ro (O d (.buildSlice t len ps) none) ρ nx hp = _
  unfold aeff0
  simp only [O]
  cases P.underlying t with
  | none => rfl
  | some u => cases u <;> rfl
@[simp] theorem ev_tmp (tm : List Cell) (t : Tmp) : ev tm (.tmp t) = getC tm t := rfl
@[simp] theorem ev_const (tm : List Cell) (v : Value) : ev tm (.const v) = (ofVal v, isNil v) := rfl
@[simp] theorem ev_func (tm : List Cell) (f : FuncId) : ev tm (.func f) = (.clo f [] [], false) := rfl
end
attribute [simp] ofVal ofCell isNil abin aint astr aun evv
@[simp] theorem one_int (k : IntKind) (n : Int) : AVal.one (.int k n) = true := rfl
@[simp] theorem flat_int (k : IntKind) (n : Int) : AVal.flat (.int k n) = [.int k n] := rfl
@[simp] theorem one_bool (b : Bool) : AVal.one (.bool b) = true := rfl
@[simp] theorem flat_bool (b : Bool) : AVal.flat (.bool b) = [.bool b] := rfl
@[simp] theorem one_str (s : ByteArray) : AVal.one (.str s) = true := rfl
@[simp] theorem flat_str (s : ByteArray) : AVal.flat (.str s) = [.str s] := rfl
@[simp] theorem one_agg (cs : List AVal) : AVal.one (.agg cs) = false := rfl
@[simp] theorem flat_agg (cs : List AVal) : AVal.flat (.agg cs) = cs := rfl
@[simp] theorem one_lst (xs : List AVal) : AVal.one (.lst xs) = true := rfl
@[simp] theorem flat_lst (xs : List AVal) : AVal.flat (.lst xs) = [.lst xs] := rfl
@[simp] theorem one_tup (vs : List AVal) : AVal.one (.tup vs) = false := rfl
@[simp] theorem flat_tup (vs : List AVal) : AVal.flat (.tup vs) = [.tup vs] := rfl
@[simp] theorem one_ptr (i o : Nat) : AVal.one (.ptr i o) = true := rfl
@[simp] theorem flat_ptr (i o : Nat) : AVal.flat (.ptr i o) = [.ptr i o] := rfl
@[simp] theorem one_pel (e : AVal) (o : Nat) : AVal.one (.pel e o) = true := rfl
@[simp] theorem flat_pel (e : AVal) (o : Nat) : AVal.flat (.pel e o) = [.pel e o] := rfl
@[simp] theorem one_map (i : Nat) : AVal.one (.map i) = true := rfl
@[simp] theorem flat_map (i : Nat) : AVal.flat (.map i) = [.map i] := rfl
@[simp] theorem one_sl (a b c d : Nat) (g : Bool) : AVal.one (.sl a b c d g) = true := rfl
@[simp] theorem flat_sl (a b c d : Nat) (g : Bool) : AVal.flat (.sl a b c d g) = [.sl a b c d g] := rfl
@[simp] theorem one_clo (f : FuncId) (l m : List AVal) : AVal.one (.clo f l m) = true := rfl
@[simp] theorem flat_clo (f : FuncId) (l m : List AVal) : AVal.flat (.clo f l m) = [.clo f l m] := rfl
@[simp] theorem one_nilp  : AVal.one (.nilp) = true := rfl
@[simp] theorem flat_nilp  : AVal.flat (.nilp) = [.nilp] := rfl
@[simp] theorem one_nilf  : AVal.one (.nilf) = true := rfl
@[simp] theorem flat_nilf  : AVal.flat (.nilf) = [.nilf] := rfl
@[simp] theorem one_nilm  : AVal.one (.nilm) = true := rfl
@[simp] theorem flat_nilm  : AVal.flat (.nilm) = [.nilm] := rfl
@[simp] theorem one_nils  : AVal.one (.nils) = true := rfl
@[simp] theorem flat_nils  : AVal.flat (.nils) = [.nils] := rfl
@[simp] theorem one_bad  : AVal.one (.bad) = false := rfl
@[simp] theorem flat_bad  : AVal.flat (.bad) = [.bad] := rfl
@[simp] theorem X_cond' (K : Cfg) (ro : Md) (c : Operand) (a b : Code) (s : St) : X K ro (.cond c a b) s = (match evv s.tm c with | .bool q => if q then X K ro a s else X K ro b s | _ => none) := X_cond K ro s c a b
def Rc : Option Out → Option Cell
  | some q => some (q.v, q.own)
  | none => none
@[simp] theorem Rc_some (v : AVal) (own : Bool) (clr : Option Tmp) (nx : Nat) (hp : Heap) : Rc (some ⟨v, own, clr, nx, hp⟩) = some (v, own) := rfl
@[simp] theorem Rc_none : Rc none = none := rfl
@[simp] theorem ares_tmp (P : Program) (t : Tmp) (s : St) (h : t < s.tm.length) : ares P s (.tmp t) = some (getC s.tm t) := getC_some h
@[simp] theorem ares_cell (P : Program) (a t : Nat) (s : St) (h : a < s.tm.length) : ares P s (.cell a t) = Rc (aload P #[] ⟨s.nx, []⟩ none t (getC s.tm a).1 s.nx s.hp) := by
  unfold ares
  simp only [getC_some h]
  cases aload P #[] ⟨s.nx, []⟩ none t (getC s.tm a).1 s.nx s.hp <;> rfl
@[simp] theorem aresults_one (P : Program) (r : ResultVar) (s : St) : aresults P [r] s = ares P s r := rfl
@[simp] theorem aresults_zero (P : Program) (s : St) : aresults P [] s = some (.tup [], false) := rfl
def Tp : Option (List AVal) → Option Cell
  | some vs => some (.tup vs, false)
  | none => none
@[simp] theorem Tp_some (vs : List AVal) : Tp (some vs) = some (.tup vs, false) := rfl
@[simp] theorem aresults_more (P : Program) (r r' : ResultVar) (l : List ResultVar) (s : St) : aresults P (r :: r' :: l) s = Tp (areslist P s (r :: r' :: l)) := by
  show (areslist P s (r :: r' :: l)).map _ = _
  cases areslist P s (r :: r' :: l) <;> rfl
def Lc (x : Option Cell) (y : Option (List AVal)) : Option (List AVal) := match x, y with
  | some (v, _), some vs => some (v :: vs)
  | _, _ => none
@[simp] theorem Lc_some (v : AVal) (b : Bool) (vs : List AVal) : Lc (some (v, b)) (some vs) = some (v :: vs) := rfl
@[simp] theorem Lc_getC (c : Cell) (vs : List AVal) : Lc (some c) (some vs) = some (c.1 :: vs) := rfl
@[simp] theorem areslist_nil (P : Program) (s : St) : areslist P s [] = some [] := rfl
@[simp] theorem areslist_cons (P : Program) (s : St) (r : ResultVar) (l : List ResultVar) : areslist P s (r :: l) = Lc (ares P s r) (areslist P s l) := rfl
@[simp] theorem idsLt_int (n : Nat) (k : IntKind) (i : Int) : AVal.idsLt n (.int k i) = true := by have h : True := trivial; simp only [AVal.idsLt]
@[simp] theorem idsLt_bool (n : Nat) (b : Bool) : AVal.idsLt n (.bool b) = true := by have h : True := trivial; simp only [AVal.idsLt]
@[simp] theorem idsLt_str (n : Nat) (s : ByteArray) : AVal.idsLt n (.str s) = true := by have h : True := trivial; simp only [AVal.idsLt]
@[simp] theorem idsLt_agg (n : Nat) (cs : List AVal) : AVal.idsLt n (.agg cs) = idsLts n cs := by have h : True := trivial; simp only [AVal.idsLt]
@[simp] theorem idsLt_lst (n : Nat) (cs : List AVal) : AVal.idsLt n (.lst cs) = idsLts n cs := by have h : True := trivial; simp only [AVal.idsLt]
@[simp] theorem idsLt_tup (n : Nat) (cs : List AVal) : AVal.idsLt n (.tup cs) = idsLts n cs := by have h : True := trivial; simp only [AVal.idsLt]
@[simp] theorem idsLt_ptr (n : Nat) (id off : Nat) : AVal.idsLt n (.ptr id off) = decide (id < n) := by have h : True := trivial; simp only [AVal.idsLt]
@[simp] theorem idsLt_sl (n : Nat) (id off len sz : Nat) (ag : Bool) : AVal.idsLt n (.sl id off len sz ag) = decide (id < n) := by have h : True := trivial; simp only [AVal.idsLt]
@[simp] theorem idsLt_pel (n : Nat) (e : AVal) (off : Nat) : AVal.idsLt n (.pel e off) = e.idsLt n := by have h : True := trivial; simp only [AVal.idsLt]
@[simp] theorem idsLt_map (n : Nat) (id : Nat) : AVal.idsLt n (.map id) = decide (id < n) := by have h : True := trivial; simp only [AVal.idsLt]
@[simp] theorem idsLt_clo (n : Nat) (f : FuncId) (fs cs : List AVal) : AVal.idsLt n (.clo f fs cs) = (idsLts n fs && idsLts n cs) := by have h : True := trivial; simp only [AVal.idsLt]
@[simp] theorem idsLt_nilp (n : Nat)  : AVal.idsLt n .nilp = true := by have h : True := trivial; simp only [AVal.idsLt]
@[simp] theorem idsLt_nilf (n : Nat)  : AVal.idsLt n .nilf = true := by have h : True := trivial; simp only [AVal.idsLt]
@[simp] theorem idsLt_nilm (n : Nat)  : AVal.idsLt n .nilm = true := by have h : True := trivial; simp only [AVal.idsLt]
@[simp] theorem idsLt_nils (n : Nat)  : AVal.idsLt n .nils = true := by have h : True := trivial; simp only [AVal.idsLt]
@[simp] theorem idsLt_bad (n : Nat)  : AVal.idsLt n .bad = true := by have h : True := trivial; simp only [AVal.idsLt]
@[simp] theorem idsLts_nil (n : Nat) : idsLts n [] = true := by have h : True := trivial; simp only [idsLts]
@[simp] theorem idsLts_cons (n : Nat) (v : AVal) (r : List AVal) : idsLts n (v :: r) = (v.idsLt n && idsLts n r) := by have h : True := trivial; simp only [idsLts]
theorem FZ_low {lo : Nat} {hp : Heap} {v : AVal} (h : v.idsLt lo = true) : FZ lo hp v = some v := FZ_iff.2 ⟨0, by simp only [fz]; rw [if_pos h]⟩
@[simp] theorem Sealed_none (nx : Nat) (hp : Heap) : Sealed nx hp none = none := rfl
@[simp] theorem Sealed_some' (nx : Nat) (hp : Heap) (v : AVal) (own : Bool) (n' : Nat) (h' : Heap) (h : v.idsLt nx = true) : Sealed nx hp (some ⟨v, own, n', h'⟩) = some ⟨v, own, nx, hp⟩ := by
  simp only [Sealed, FZ_low h, h, if_true, slOwn, Bool.and_true]
@[simp] theorem Tidied_none (nx : Nat) : Tidied nx none = none := rfl
@[simp] theorem Tidied_some' (nx : Nat) (v : AVal) (own : Bool) (n' : Nat) (h' : Heap) (h : v.idsLt nx = true) (hc : hclean nx h' = true) : Tidied nx (some ⟨v, own, n', h'⟩) = some ⟨v, own, nx, hlow nx h'⟩ := by
  simp only [Tidied, FZ_low h, h, hc, if_true, slOwn, Bool.and_true]
@[simp] theorem hlow_cons (n i : Nat) (b : ABlk) (h : Heap) : hlow n ((i, b) :: h) = if i < n then (i, b) :: hlow n h else hlow n h := by
  unfold hlow
  rw [List.filter_cons]
  simp
@[simp] theorem hlow_hset (n i : Nat) (b : ABlk) (h : Heap) : hlow n (hset h i b) = hset (hlow n h) i b := by
  induction h with
  | nil => rfl
  | cons p h ih =>
    obtain ⟨j, c⟩ := p
    simp only [hset, hlow_cons]
    split
    · rename_i e; subst e
      rw [hlow_cons]
      split
      · simp [hset]
      · rename_i hn
        rw [← ih]
        clear ih
        induction h with
        | nil => rfl
        | cons p h ih =>
          obtain ⟨j, c⟩ := p
          simp only [hset]
          split
          · rename_i e; subst e
            simp [hn]
          · simp only [hlow_cons]
            split
            · rw [ih]
            · exact ih
    · rename_i hne
      rw [hlow_cons]
      split
      · simp [hset, hne, ih]
      · exact ih
@[simp] theorem hclean_cons (n i : Nat) (b : ABlk) (h : Heap) : hclean n ((i, b) :: h) = ((!decide (i < n) || match b with | .cells cs => cs.all fun c => c.1.idsLt n | .map es => es.all fun p => p.1.idsLt n && p.2.idsLt n) && hclean n h) := rfl
theorem hclean_hset {n i : Nat} {cs : List Cell} {h : Heap} (hh : hclean n h = true) (hc : cs.all (fun c => c.1.idsLt n) = true) : hclean n (hset h i (.cells cs)) = true := by
  induction h with
  | nil => rfl
  | cons p h ih =>
    obtain ⟨j, c⟩ := p
    rw [hclean_cons, Bool.and_eq_true] at hh
    simp only [hset]
    split
    · rw [hclean_cons, Bool.and_eq_true]; exact ⟨by simp only [hc, Bool.or_true], hh.2⟩
    · rw [hclean_cons, Bool.and_eq_true]; exact ⟨hh.1, ih hh.2⟩
attribute [simp] alen
@[simp] theorem lift_some' (nx : Nat) (hp : Heap) (v : AVal) (own : Bool) (n' : Nat) (h' : Heap) : lift nx hp (some ⟨v, own, n', h'⟩) = some ⟨v, own, nx, hp⟩ := rfl
@[simp] theorem lift_none (nx : Nat) (hp : Heap) : lift nx hp none = none := rfl
section
variable (P : Program) (ops : Array Oper) (ro : Md) (d : Option Tmp) (t : TypeId) (nx : Nat) (hp : Heap)
@[simp] theorem nilL_nil : AVal.nilL (.lst []) = true := rfl
@[simp] theorem nilL_cons (x : AVal) (r : List AVal) : AVal.nilL (.lst (x :: r)) = false := rfl
def LdC (ops : Array Oper) (ro : Md) (d : Option Tmp) (t : TypeId) (id off : Nat) (cs : List Cell) (nx : Nat) (hp : Heap) : Option Cell → Option Out
  | some (v, true) => if feeds ops d then (if v.nilL then some ⟨v, true, none, nx, hp⟩ else if !ro.mu.contains t && ro.lo ≤ id then some ⟨v, true, none, nx, hset hp id (.cells (cs.set off (v, false)))⟩ else some ⟨v, false, none, nx, hp⟩) else some ⟨v, false, none, nx, hp⟩
  | some (v, false) => some ⟨v, false, none, nx, hp⟩
  | none => none
@[simp] theorem LdC_f (id off : Nat) (cs : List Cell) (v : AVal) : LdC ops ro d t id off cs nx hp (some (v, false)) = some ⟨v, false, none, nx, hp⟩ := rfl
@[simp] theorem LdC_t (id off : Nat) (cs : List Cell) (v : AVal) : LdC ops ro d t id off cs nx hp (some (v, true)) = if feeds ops d then (if v.nilL then some ⟨v, true, none, nx, hp⟩ else if !ro.mu.contains t && ro.lo ≤ id then some ⟨v, true, none, nx, hset hp id (.cells (cs.set off (v, false)))⟩ else some ⟨v, false, none, nx, hp⟩) else some ⟨v, false, none, nx, hp⟩ := rfl
def LdA (P : Program) (ops : Array Oper) (ro : Md) (d : Option Tmp) (t : TypeId) (id off : Nat) (cs : List Cell) (nx : Nat) (hp : Heap) : Option Bool → Option Out
  | some true => if off + sizeT P t ≤ cs.length then some ⟨.agg (((cs.drop off).take (sizeT P t)).map (·.1)), false, none, nx, hp⟩ else none
  | some false => LdC ops ro d t id off cs nx hp cs[off]?
  | none => none
@[simp] theorem LdA_t (id off : Nat) (cs : List Cell) : LdA P ops ro d t id off cs nx hp (some true) = if off + sizeT P t ≤ cs.length then some ⟨.agg (((cs.drop off).take (sizeT P t)).map (·.1)), false, none, nx, hp⟩ else none := rfl
@[simp] theorem LdA_f (id off : Nat) (cs : List Cell) : LdA P ops ro d t id off cs nx hp (some false) = LdC ops ro d t id off cs nx hp cs[off]? := rfl
def Ld (P : Program) (ops : Array Oper) (ro : Md) (d : Option Tmp) (t : TypeId) (id off : Nat) (nx : Nat) (hp : Heap) : Option ABlk → Option Out
  | some (.cells cs) => LdA P ops ro d t id off cs nx hp (isAggT P t)
  | _ => none
@[simp] theorem Ld_cells (id off : Nat) (cs : List Cell) : Ld P ops ro d t id off nx hp (some (.cells cs)) = LdA P ops ro d t id off cs nx hp (isAggT P t) := rfl
@[simp] theorem aload_ptr (id off : Nat) : aload P ops ro d t (.ptr id off) nx hp = Ld P ops ro d t id off nx hp (hget hp id) := by
  unfold aload Ld
  simp only
  cases hget hp id with
  | none => rfl
  | some b =>
    cases b with
    | map es => rfl
    | cells cs =>
      simp only
      cases isAggT P t with
      | none => rfl
      | some q =>
        cases q with
        | true => rfl
        | false =>
          simp only [LdA_f]
          cases cs[off]? with
          | none => rfl
          | some c => obtain ⟨v, f⟩ := c; cases f <;> rfl
@[simp] theorem aload_pel (e : AVal) (off : Nat) : aload P ops ro d t (.pel e off) nx hp = V nx hp (pick P t e.flat off) := V_map nx hp _
attribute [simp] hget_hset
@[simp] theorem hget_same (i : Nat) (b : ABlk) (h : Heap) : hget ((i, b) :: h) i = some b := by simp [hget]
@[simp] theorem hget_cons (i j : Nat) (b : ABlk) (h : Heap) : hget ((i, b) :: h) j = if j = i then some b else hget h j := rfl
@[simp] theorem hset_cons (i j : Nat) (b v : ABlk) (h : Heap) : hset ((i, b) :: h) j v = if j = i then (i, v) :: h else (i, b) :: hset h j v := rfl
@[simp] theorem ashift_ptr (o id off : Nat) : ashift o (.ptr id off) = some (.ptr id (off + o)) := rfl
@[simp] theorem ashift_pel (o : Nat) (e : AVal) (off : Nat) : ashift o (.pel e off) = some (.pel e (off + o)) := rfl
/-- Element n of a list, where it stands. -/
@[simp] theorem aindexa_lst (t el : TypeId) (xs : List AVal) (k : IntKind) (n : Int) (hu : P.underlying t = some (.slice el)) : aindexa P t (.lst xs) (.int k n) = if 0 ≤ n then (match xs[n.toNat]? with | some e => if e.flat.length = sizeT P el then some (.pel e 0) else none | none => none) else none := by
  unfold aindexa
  simp only [hu]
  split
  · cases xs[n.toNat]? <;> rfl
  · rfl
/-- A store. -/
def Sc (P : Program) (ops : Array Oper) (ro : Md) (t : TypeId) (id off : Nat) (x : Operand) (c : Cell) (nx : Nat) (hp : Heap) : Option ABlk → Option Out
  | some (.cells cs) =>
      if ro.lo ≤ id ∧ 0 < sizeT P t ∧ c.1.flat.length = sizeT P t ∧ off + c.1.flat.length ≤ cs.length ∧ c.1.flat.all AVal.one then
        match x, c with
        | .tmp u, (v, true) => if makes ops u ∧ sizeT P t = 1 then some ⟨.tup [], false, some u, nx, hset hp id (.cells (cs.set off (v, true)))⟩
          else some ⟨.tup [], false, none, nx, hset hp id (.cells (setCs cs off (unownS c.1.flat)))⟩
        | .const _, (.lst [], true) => some ⟨.tup [], false, none, nx, hset hp id (.cells (cs.set off (.lst [], true)))⟩
        | _, _ => some ⟨.tup [], false, none, nx, hset hp id (.cells (setCs cs off (unownS c.1.flat)))⟩
      else none
  | _ => none
theorem astore_ptr (id off : Nat) (x : Operand) (c : Cell) : astore P ops ro t (.ptr id off) x c nx hp = Sc P ops ro t id off x c nx hp (hget hp id) := by
  unfold astore Sc
  simp only
  cases hget hp id with
  | none => rfl
  | some b => cases b <;> rfl
def ScP (P : Program) (lo : Nat) (t : TypeId) (id off : Nat) (v : AVal) (clr : Option Tmp) (new : List Cell) (nx : Nat) (hp : Heap) : Option ABlk → Option Out
  | some (.cells cs) => if lo ≤ id ∧ 0 < sizeT P t ∧ v.flat.length = sizeT P t ∧ off + v.flat.length ≤ cs.length ∧ v.flat.all AVal.one then some ⟨.tup [], false, clr, nx, hset hp id (.cells (setCs cs off new))⟩ else none
  | _ => none
@[simp] theorem ScP_some (lo : Nat) (id off : Nat) (v : AVal) (clr : Option Tmp) (new cs : List Cell) : ScP P lo t id off v clr new nx hp (some (.cells cs)) = if lo ≤ id ∧ 0 < sizeT P t ∧ v.flat.length = sizeT P t ∧ off + v.flat.length ≤ cs.length ∧ v.flat.all AVal.one then some ⟨.tup [], false, clr, nx, hset hp id (.cells (setCs cs off new))⟩ else none := rfl
@[simp] theorem astore_f (id off : Nat) (u : Tmp) (v : AVal) : astore P ops ro t (.ptr id off) (.tmp u) (v, false) nx hp = ScP P ro.lo t id off v none (unownS v.flat) nx hp (hget hp id) := by
  rw [astore_ptr]
  cases hget hp id with
  | none => rfl
  | some b => cases b <;> rfl
@[simp] theorem astore_t (id off : Nat) (u : Tmp) (v : AVal) : astore P ops ro t (.ptr id off) (.tmp u) (v, true) nx hp = if makes ops u ∧ sizeT P t = 1 then ScP P ro.lo t id off v (some u) [(v, true)] nx hp (hget hp id) else ScP P ro.lo t id off v none (unownS v.flat) nx hp (hget hp id) := by
  rw [astore_ptr]
  cases hget hp id with
  | none => simp [Sc, ScP]
  | some b =>
    cases b with
    | map es => simp [Sc, ScP]
    | cells cs =>
      simp only [Sc, ScP]
      by_cases h : ro.lo ≤ id ∧ 0 < sizeT P t ∧ v.flat.length = sizeT P t ∧ off + v.flat.length ≤ cs.length ∧ v.flat.all AVal.one = true
      · simp only [if_pos h]; rfl
      · simp only [if_neg h]; split <;> rfl
@[simp] theorem astore_fn (id off : Nat) (f : FuncId) (c : Cell) : astore P ops ro t (.ptr id off) (.func f) c nx hp = ScP P ro.lo t id off c.1 none (unownS c.1.flat) nx hp (hget hp id) := by
  rw [astore_ptr]
  cases hget hp id with
  | none => rfl
  | some b => cases b <;> rfl
@[simp] theorem astore_cf (id off : Nat) (k : Value) (v : AVal) : astore P ops ro t (.ptr id off) (.const k) (v, false) nx hp = ScP P ro.lo t id off v none (unownS v.flat) nx hp (hget hp id) := by
  rw [astore_ptr]
  cases hget hp id with
  | none => rfl
  | some b =>
    cases b with
    | map es => rfl
    | cells cs => cases v <;> first | rfl | (rename_i l; cases l <;> rfl)
@[simp] theorem astore_cn (id off : Nat) (k : Value) : astore P ops ro t (.ptr id off) (.const k) (.lst [], true) nx hp = ScP P ro.lo t id off (.lst []) none [(.lst [], true)] nx hp (hget hp id) := by
  rw [astore_ptr]
  cases hget hp id with
  | none => rfl
  | some b => cases b <;> rfl
end
/-- A struct out of parts: the places of its fields, its zero. -/
def afillL (pl : List (Nat × Nat)) (cs : List AVal) (parts : List (Nat × AVal)) : Option AVal := (afill (pl.toArray[·]?) cs parts).map .agg
def fillAt (pl : List (Nat × Nat)) (cs : List AVal) (v : AVal) (r : List (Nat × AVal)) : Option (Nat × Nat) → Option AVal
  | some (off, n) => if v.flat.length = n ∧ off + n ≤ cs.length ∧ v.flat.all AVal.one then afillL pl (lsets cs off v.flat) r else none
  | none => none
@[simp] theorem fillAt_some (pl : List (Nat × Nat)) (cs : List AVal) (v : AVal) (r : List (Nat × AVal)) (off n : Nat) : fillAt pl cs v r (some (off, n)) = if v.flat.length = n ∧ off + n ≤ cs.length ∧ v.flat.all AVal.one then afillL pl (lsets cs off v.flat) r else none := rfl
@[simp] theorem afillL_nil (pl : List (Nat × Nat)) (cs : List AVal) : afillL pl cs [] = some (.agg cs) := rfl
@[simp] theorem afillL_cons (pl : List (Nat × Nat)) (cs : List AVal) (i : Nat) (v : AVal) (r : List (Nat × AVal)) : afillL pl cs ((i, v) :: r) = fillAt pl cs v r pl[i]? := by
  unfold afillL
  simp only [afill, List.getElem?_toArray]
  cases pl[i]? with
  | none => rfl
  | some q =>
    obtain ⟨off, n⟩ := q
    simp only [fillAt]
    split
    · simp only [afillL, List.getElem?_toArray]
    · rfl
@[simp] theorem lsets_nil (cs : List AVal) (i : Nat) : lsets cs i [] = cs := rfl
@[simp] theorem lsets_cons (cs : List AVal) (i : Nat) (v : AVal) (l : List AVal) : lsets cs i (v :: l) = lsets (cs.set i v) (i + 1) l := rfl
@[simp] theorem unS_int (k : IntKind) (n : Int) : unS (.int k n) = (.int k n, false) := rfl
@[simp] theorem unS_bool (b : Bool) : unS (.bool b) = (.bool b, false) := rfl
@[simp] theorem unS_str (s : ByteArray) : unS (.str s) = (.str s, false) := rfl
@[simp] theorem unS_agg (cs : List AVal) : unS (.agg cs) = (.agg cs, false) := rfl
@[simp] theorem unS_lst (xs : List AVal) : unS (.lst xs) = (.lst xs, false) := rfl
@[simp] theorem unS_tup (vs : List AVal) : unS (.tup vs) = (.tup vs, false) := rfl
@[simp] theorem unS_ptr (i o : Nat) : unS (.ptr i o) = (.ptr i o, false) := rfl
@[simp] theorem unS_pel (e : AVal) (o : Nat) : unS (.pel e o) = (.pel e o, false) := rfl
@[simp] theorem unS_map (i : Nat) : unS (.map i) = (.map i, false) := rfl
@[simp] theorem unS_sl (a b c d : Nat) (g : Bool) : unS (.sl a b c d g) = (.sl a b c d g, false) := rfl
@[simp] theorem unS_clo (f : FuncId) (l m : List AVal) : unS (.clo f l m) = (.clo f l m, false) := rfl
@[simp] theorem unS_nilp  : unS (.nilp) = (.nilp, false) := rfl
@[simp] theorem unS_nilf  : unS (.nilf) = (.nilf, false) := rfl
@[simp] theorem unS_nilm  : unS (.nilm) = (.nilm, false) := rfl
@[simp] theorem unS_bad  : unS (.bad) = (.bad, false) := rfl
@[simp] theorem unS_nils : unS .nils = (.lst [], true) := rfl
attribute [simp] setCs unown unownS pick feeds makes stored
/-- Element n of an array. -/
@[simp] theorem aindexa_sl (P : Program) (t el : TypeId) (id off len sz : Nat) (ag : Bool) (k : IntKind) (n : Int) (hu : P.underlying t = some (.slice el)) : aindexa P t (.sl id off len sz ag) (.int k n) = if 0 ≤ n ∧ n < len ∧ sizeT P el = sz ∧ 0 < sz then some (.ptr id (off + n.toNat * sz)) else none := by
  unfold aindexa
  simp only [hu]
  by_cases h : 0 ≤ n ∧ n < len
  · rw [if_pos h]
    by_cases h2 : sizeT P el = sz ∧ 0 < sz
    · rw [if_pos h2, if_pos ⟨h.1, h.2, h2⟩]
    · rw [if_neg h2, if_neg fun k => h2 k.2.2]
  · rw [if_neg h, if_neg fun k => h ⟨k.1, k.2.1⟩]
@[simp] theorem bound_none (d m : Nat) : bound none d m = some d := rfl
@[simp] theorem bound_int (k : IntKind) (n : Int) (d m : Nat) : bound (some (.int k n)) d m = if 0 ≤ n ∧ n ≤ m then some n.toNat else none := rfl
def slR (id off len sz : Nat) (ag : Bool) (lo : Option AVal) : Option Nat → Option AVal
  | some h => match bound lo 0 h with
    | some l => some (if l < len ∨ l = 0 then .sl id (off + l * sz) (h - l) sz ag else .lst [])
    | none => none
  | none => none
@[simp] theorem slR_some (id off len sz : Nat) (ag : Bool) (lo : Option AVal) (h : Nat) : slR id off len sz ag lo (some h) = match bound lo 0 h with
    | some l => some (if l < len ∨ l = 0 then .sl id (off + l * sz) (h - l) sz ag else .lst [])
    | none => none := rfl
@[simp] theorem slR_none (id off len sz : Nat) (ag : Bool) (lo : Option AVal) : slR id off len sz ag lo none = none := rfl
@[simp] theorem aslice_sl (P : Program) (t e : TypeId) (id off len sz : Nat) (ag : Bool) (lo hi : Option AVal) (hu : P.underlying t = some (.slice e)) : aslice P t (.sl id off len sz ag) lo hi none = if sizeT P e = sz ∧ 0 < sz then slR id off len sz ag lo (bound hi len len) else none := by
  simp only [aslice, hu]
  split
  · cases bound hi len len with
    | none => rfl
    | some h => simp only [slR_some]; cases bound lo 0 h <;> rfl
  · rfl
def slL (xs : List AVal) (lo : Option AVal) : Option Nat → Option AVal
  | some h => match bound lo 0 h with
    | some l => some (.lst ((xs.take h).drop l))
    | none => none
  | none => none
@[simp] theorem slL_some (xs : List AVal) (lo : Option AVal) (h : Nat) : slL xs lo (some h) = match bound lo 0 h with
    | some l => some (.lst ((xs.take h).drop l))
    | none => none := rfl
@[simp] theorem slL_none (xs : List AVal) (lo : Option AVal) : slL xs lo none = none := rfl
@[simp] theorem aslice_lst (P : Program) (t e : TypeId) (xs : List AVal) (lo hi : Option AVal) (hu : P.underlying t = some (.slice e)) : aslice P t (.lst xs) lo hi none = if headOk xs (sizeT P e) = true ∧ 0 < sizeT P e then slL xs lo (bound hi xs.length xs.length) else none := by
  simp only [aslice, hu]
  split
  · cases bound hi xs.length xs.length with
    | none => rfl
    | some h => simp only [slL_some]; cases bound lo 0 h <;> rfl
  · rfl
def slS (s : ByteArray) (lo : Option AVal) : Option Nat → Option AVal
  | some h => match bound lo 0 h with
    | some l => some (.str (s.extract l h))
    | none => none
  | none => none
@[simp] theorem slS_some (s : ByteArray) (lo : Option AVal) (h : Nat) : slS s lo (some h) = match bound lo 0 h with
    | some l => some (.str (s.extract l h))
    | none => none := rfl
@[simp] theorem slS_none (s : ByteArray) (lo : Option AVal) : slS s lo none = none := rfl
@[simp] theorem aslice_str (P : Program) (t : TypeId) (s : ByteArray) (lo hi : Option AVal) (hu : P.underlying t = some .string) : aslice P t (.str s) lo hi none = slS s lo (bound hi s.size s.size) := by
  simp only [aslice, hu]
  cases bound hi s.size s.size with
  | none => rfl
  | some h => simp only [slS_some]; cases bound lo 0 h <;> rfl
/-! ### Appending -/
def apInfo (P : Program) (t : TypeId) : Option (TypeId × Nat × Nat × Bool) := match P.underlying t with
  | some (.slice e) => match P.info? e, isAggT P e with
    | some i, some ag => if i.bytes ≠ 0 ∧ 0 < i.size ∧ zeroOk i = true then some (e, i.bytes, i.size, ag) else none
    | _, _ => none
  | _ => none
def slT (P : Program) (t : TypeId) : Bool := match P.underlying t with
  | some (.slice _) => true
  | _ => false
theorem apInfo_inv {P : Program} {t e : TypeId} {b sz : Nat} {ag : Bool} (h : apInfo P t = some (e, b, sz, ag)) : ∃ i, P.underlying t = some (.slice e) ∧ P.info? e = some i ∧ isAggT P e = some ag ∧ i.bytes ≠ 0 ∧ 0 < i.size ∧ zeroOk i = true ∧ i.bytes = b ∧ i.size = sz ∧ sizeT P e = sz := by
  unfold apInfo at h
  split at h
  · rename_i e' hu
    split at h
    · rename_i i ag' hi ha
      split at h
      · rename_i hc
        cases h
        exact ⟨i, hu, hi, ha, hc.1, hc.2.1, hc.2.2, rfl, rfl, by simp [sizeT, hi]⟩
      · cases h
    · cases h
  · cases h
theorem slT_inv {P : Program} {t : TypeId} (h : slT P t = true) : ∃ e, P.underlying t = some (.slice e) := by
  unfold slT at h
  split at h
  · rename_i e he; exact ⟨e, he⟩
  · cases h
theorem aappendO_lst {P : Program} {t t2 e : TypeId} {b sz : Nat} {ag : Bool} (hi : apInfo P t = some (e, b, sz, ag)) (h2 : slT P t2 = true) (xs ys : List AVal) (clr : Option Tmp) (nx : Nat) (hp : Heap) :
    aappendO P [t, t2] xs (.lst ys) clr nx hp = if headOk xs sz = true ∧ headOk ys sz = true ∧ (xs.length + ys.length) * b ≤ 140737488355328 then some ⟨.lst (xs ++ ys), true, clr, nx, hp⟩ else none := by
  obtain ⟨i, q1, q2, q3, q4, q5, q6, rfl, rfl, q9⟩ := apInfo_inv hi
  obtain ⟨e2, q10⟩ := slT_inv h2
  simp only [aappendO, q10, aappend, q1, q2]
  by_cases h : headOk xs i.size = true ∧ headOk ys i.size = true ∧ (xs.length + ys.length) * i.bytes ≤ 140737488355328
  · rw [if_pos h, if_pos ⟨q4, h.1, h.2.1, q6, h.2.2⟩]; rfl
  · rw [if_neg h, if_neg fun k => h ⟨k.2.1, k.2.2.1, k.2.2.2.2⟩]; rfl
def apM (lo : Nat) (b sz : Nat) (ag : Bool) (x : Operand) (nx : Nat) (hp : Heap) : Cell → Option (Nat × List AVal) → Option Out
  | (.lst [], true), some (k, ys) => if k = 0 then some ⟨.lst [], true, (match x with | .tmp u => some u | _ => none), nx, hp⟩
      else if k * b ≤ 140737488355328 then some ⟨.sl nx 0 k sz ag, false, none, nx + 1, (nx, .cells (unown ys)) :: hp⟩ else none
  | (.sl id 0 n sz' _, _), some (k, ys) => match hget hp id with
    | some (.cells cs) => if lo ≤ id ∧ sz' = sz ∧ n * sz' ≤ cs.length ∧ (n + k) * b ≤ 140737488355328 then
        some ⟨.sl nx 0 (n + k) sz' ag, false, none, nx + 1, (nx, .cells (unown ((cs.take (n * sz')).map (·.1) ++ ys))) :: hdel hp id⟩ else none
    | _ => none
  | _, _ => none
theorem aappendM_eq {P : Program} {t t2 e : TypeId} {b sz : Nat} {ag : Bool} (hi : apInfo P t = some (e, b, sz, ag)) (h2 : slT P t2 = true) (lo : Nat) (x : Operand) (c : Cell) (y : AVal) (nx : Nat) (hp : Heap) :
    aappendM P lo [t, t2] x c y nx hp = apM lo b sz ag x nx hp c (cellsOf P e y hp) := by
  obtain ⟨i, q1, q2, q3, q4, q5, q6, rfl, rfl, q9⟩ := apInfo_inv hi
  obtain ⟨e2, q10⟩ := slT_inv h2
  simp only [aappendM, q1, q10, q2, q3]
  cases cellsOf P e y hp with
  | none => simp only [apM]
  | some kys =>
    obtain ⟨k, ys⟩ := kys
    simp only
    rw [if_pos ⟨q4, q5, q6⟩]
    obtain ⟨v, f⟩ := c
    cases v <;> cases f <;> first | rfl | (rename_i l; cases l <;> rfl) | (rename_i id off len sz ag; cases off <;> rfl)
theorem apInfo_none {P : Program} {t : TypeId} (h : apInfo P t = none) (e : TypeId) (he : P.underlying t = some (.slice e)) : (P.info? e = none ∨ isAggT P e = none) ∨ ∃ i ag, P.info? e = some i ∧ isAggT P e = some ag ∧ ¬ (i.bytes ≠ 0 ∧ 0 < i.size ∧ zeroOk i = true) := by
  unfold apInfo at h
  rw [he] at h
  simp only at h
  cases hi : P.info? e with
  | none => exact .inl (.inl rfl)
  | some i =>
    cases ha : isAggT P e with
    | none => exact .inl (.inr rfl)
    | some ag =>
      rw [hi, ha] at h
      simp only at h
      split at h
      · cases h
      · rename_i hc; exact .inr ⟨i, ag, rfl, rfl, hc⟩
def apG (P : Program) (lo : Nat) (x : Operand) (c : Cell) (y : AVal) (nx : Nat) (hp : Heap) : Option (TypeId × Nat × Nat × Bool) → Bool → Option Out
  | some (e, b, sz, ag), true => apM lo b sz ag x nx hp c (cellsOf P e y hp)
  | _, _ => none
@[simp] theorem apG_some (P : Program) (lo : Nat) (x : Operand) (c : Cell) (y : AVal) (nx : Nat) (hp : Heap) (e : TypeId) (b sz : Nat) (ag : Bool) : apG P lo x c y nx hp (some (e, b, sz, ag)) true = apM lo b sz ag x nx hp c (cellsOf P e y hp) := rfl
@[simp] theorem aappendM_simp {P : Program} {t t2 : TypeId} (lo : Nat) (x : Operand) (c : Cell) (y : AVal) (nx : Nat) (hp : Heap) : aappendM P lo [t, t2] x c y nx hp = apG P lo x c y nx hp (apInfo P t) (slT P t2) := by
  cases h2 : slT P t2 with
  | true =>
    cases h1 : apInfo P t with
    | some q => obtain ⟨e, b, sz, ag⟩ := q; exact aappendM_eq h1 h2 lo x c y nx hp
    | none =>
      obtain ⟨e2, q2⟩ := slT_inv h2
      unfold aappendM
      simp only [q2]
      show _ = none
      cases hu : P.underlying t with
      | none => rfl
      | some u =>
        cases u <;> (try rfl)
        rename_i e
        rcases apInfo_none h1 e hu with (h | h) | ⟨i, ag, q3, q4, q5⟩
        · simp only [h]
        · simp only [h]; cases P.info? e <;> rfl
        · simp only [q3, q4]
          cases cellsOf P e y hp with
          | none => rfl
          | some kys => obtain ⟨k, ys⟩ := kys; simp only; rw [if_neg q5]
  | false =>
    have hn : ∀ e, P.underlying t2 ≠ some (.slice e) := by
      intro e he
      unfold slT at h2
      rw [he] at h2
      cases h2
    unfold aappendM
    cases h1 : apInfo P t with
    | some q =>
      simp only
      cases hu : P.underlying t with
      | none => rfl
      | some u =>
        cases hu2 : P.underlying t2 with
        | none => cases u <;> rfl
        | some u2 => cases u <;> cases u2 <;> first | rfl | exact absurd hu2 (hn _)
    | none =>
      simp only
      cases hu : P.underlying t with
      | none => rfl
      | some u =>
        cases hu2 : P.underlying t2 with
        | none => cases u <;> rfl
        | some u2 => cases u <;> cases u2 <;> first | rfl | exact absurd hu2 (hn _)
def apH (xs ys : List AVal) (clr : Option Tmp) (nx : Nat) (hp : Heap) : Option (TypeId × Nat × Nat × Bool) → Bool → Option Out
  | some (_, b, sz, _), true => if headOk xs sz = true ∧ headOk ys sz = true ∧ (xs.length + ys.length) * b ≤ 140737488355328 then some ⟨.lst (xs ++ ys), true, clr, nx, hp⟩ else none
  | _, _ => none
@[simp] theorem apH_some (xs ys : List AVal) (clr : Option Tmp) (nx : Nat) (hp : Heap) (e : TypeId) (b sz : Nat) (ag : Bool) : apH xs ys clr nx hp (some (e, b, sz, ag)) true = if headOk xs sz = true ∧ headOk ys sz = true ∧ (xs.length + ys.length) * b ≤ 140737488355328 then some ⟨.lst (xs ++ ys), true, clr, nx, hp⟩ else none := rfl
@[simp] theorem aappendO_simp {P : Program} {t t2 : TypeId} (hs : (apInfo P t).isSome = true) (h2 : slT P t2 = true) (xs ys : List AVal) (clr : Option Tmp) (nx : Nat) (hp : Heap) : aappendO P [t, t2] xs (.lst ys) clr nx hp = apH xs ys clr nx hp (apInfo P t) true := by
  cases h1 : apInfo P t with
  | none => rw [h1] at hs; cases hs
  | some q => obtain ⟨e, b, sz, ag⟩ := q; exact aappendO_lst h1 h2 xs ys clr nx hp
@[simp] theorem apM_nil (lo b sz : Nat) (ag : Bool) (x : Operand) (nx : Nat) (hp : Heap) (k : Nat) (ys : List AVal) : apM lo b sz ag x nx hp (.lst [], true) (some (k, ys)) = if k = 0 then some ⟨.lst [], true, (match x with | .tmp u => some u | _ => none), nx, hp⟩
      else if k * b ≤ 140737488355328 then some ⟨.sl nx 0 k sz ag, false, none, nx + 1, (nx, .cells (unown ys)) :: hp⟩ else none := rfl
theorem apM_sl {hp : Heap} {id : Nat} {cs : List Cell} (hg : hget hp id = some (.cells cs)) (lo b sz : Nat) (ag ag' f : Bool) (x : Operand) (nx : Nat) (n sz' : Nat) (k : Nat) (ys : List AVal) : apM lo b sz ag x nx hp (.sl id 0 n sz' ag', f) (some (k, ys)) = if lo ≤ id ∧ sz' = sz ∧ n * sz' ≤ cs.length ∧ (n + k) * b ≤ 140737488355328 then
        some ⟨.sl nx 0 (n + k) sz' ag, false, none, nx + 1, (nx, .cells (unown ((cs.take (n * sz')).map (·.1) ++ ys))) :: hdel hp id⟩ else none := by
  simp only [apM, hg]
@[simp] theorem cellsOf_lst (P : Program) (e : TypeId) (ys : List AVal) (hp : Heap) : cellsOf P e (.lst ys) hp = if ys.all (fun y => y.flat.length == sizeT P e) then some (ys.length, flats ys) else none := rfl
def cellsB (P : Program) (e : TypeId) (off n sz : Nat) : Option ABlk → Option (Nat × List AVal)
  | some (.cells cs) => if sz = sizeT P e ∧ off + n * sz ≤ cs.length then some (n, ((cs.drop off).take (n * sz)).map (·.1)) else none
  | _ => none
@[simp] theorem cellsB_some (P : Program) (e : TypeId) (off n sz : Nat) (cs : List Cell) : cellsB P e off n sz (some (.cells cs)) = if sz = sizeT P e ∧ off + n * sz ≤ cs.length then some (n, ((cs.drop off).take (n * sz)).map (·.1)) else none := rfl
@[simp] theorem cellsOf_sl (P : Program) (e : TypeId) (id off n sz : Nat) (ag : Bool) (hp : Heap) : cellsOf P e (.sl id off n sz ag) hp = cellsB P e off n sz (hget hp id) := by
  unfold cellsOf cellsB
  simp only
  cases hget hp id with
  | none => rfl
  | some b => cases b <;> rfl
@[simp] theorem headOk_nil (n : Nat) : headOk [] n = true := rfl
@[simp] theorem headOk_cons (x : AVal) (r : List AVal) (n : Nat) : headOk (x :: r) n = (x.flat.length == n) := rfl
@[simp] theorem flats_nil : flats [] = [] := rfl
@[simp] theorem flats_cons (x : AVal) (r : List AVal) : flats (x :: r) = x.flat ++ flats r := rfl
@[simp] theorem hget_hdel (h : Heap) (id j : Nat) : hget (hdel h id) j = if j = id then none else hget h j := by
  induction h with
  | nil => simp [hdel, hget]
  | cons p h ih =>
    obtain ⟨i, b⟩ := p
    unfold hdel at ih ⊢
    rw [List.filter_cons]
    by_cases e : i = id
    · subst e
      simp only [bne_self_eq_false, Bool.false_eq_true, if_false]
      rw [ih]
      by_cases e2 : j = i
      · simp [e2]
      · simp [e2, hget]
    · have : (i != id) = true := by simpa using e
      rw [if_pos this]
      simp only [hget]
      by_cases e2 : j = i
      · subst e2; simp [e]
      · rw [if_neg e2, if_neg e2, ih]
/-! ### Drawn orders -/
@[simp] theorem OA_dst (d : Option Tmp) (op : Op) (g : Option (Nat × Bool)) (q : List Nat) : (OA d op g q).dst = d := rfl
@[simp] theorem OA_op (d : Option Tmp) (op : Op) (g : Option (Nat × Bool)) (q : List Nat) : (OA d op g q).op = op := rfl
@[simp] theorem OA_guard (d : Option Tmp) (op : Op) (g : Option (Nat × Bool)) (q : List Nat) : (OA d op g q).guard = g := rfl
noncomputable def ODn (K : Cfg) (ops : Array Oper) (ro : Md) (j : Nat) (r : List Oper) (tr : List (Nat × Heap × Heap)) (fs : List (Nat × Option Nat)) (q : List Nat) (rd : Bool) (ft : Option Nat) (hp : Heap) : Option St → Option St
  | some s' => if rd then (if okT j ft tr q then OD K ops ro (j + 1) r tr (if q.contains j then (j, ft) :: fs else fs) (some s') else none)
      else if okF j hp s'.hp fs q then OD K ops ro (j + 1) r (if q.contains j then (j, hp, s'.hp) :: tr else tr) fs (some s') else none
  | none => none
section
variable (K : Cfg) (ops : Array Oper) (ro : Md) (j : Nat) (r : List Oper) (tr : List (Nat × Heap × Heap)) (fs : List (Nat × Option Nat)) (q : List Nat)
@[simp] theorem OD_nil (x : Option St) : OD K ops ro j [] tr fs x = x := by cases x <;> rfl
@[simp] theorem OD_none : OD K ops ro j r tr fs none = none := rfl
@[simp] theorem ODn_none (rd : Bool) (ft : Option Nat) (hp : Heap) : ODn K ops ro j r tr fs q rd ft hp none = none := rfl
@[simp] theorem ODn_r (ft : Option Nat) (hp : Heap) (s' : St) : ODn K ops ro j r tr fs q true ft hp (some s') = if okT j ft tr q then OD K ops ro (j + 1) r tr (if q.contains j then (j, ft) :: fs else fs) (some s') else none := rfl
@[simp] theorem ODn_w (ft : Option Nat) (hp : Heap) (tm' : List Cell) (nx' : Nat) (hp' : Heap) : ODn K ops ro j r tr fs q false ft hp (some ⟨tm', nx', hp'⟩) = if okF j hp hp' fs q then OD K ops ro (j + 1) r (if q.contains j then (j, hp, hp') :: tr else tr) fs (some ⟨tm', nx', hp'⟩) else none := rfl
theorem OD_cons (o : Oper) (s : St) : OD K ops ro j (o :: r) tr fs (some s) = ODn K ops ro j r tr fs (o.after.toList.map (·.on)) (rdr ro.mu ops o) (footAt o s) s.hp (astep K.P (R K) ops ro o s) := by
  unfold OD
  simp only [Option.bind_some, List.map_cons, aopsD]
  cases astep K.P (R K) ops ro o s with
  | none => rfl
  | some s' =>
    simp only [ODn]
    rfl
theorem OA_after (d : Option Tmp) (op : Op) (g : Option (Nat × Bool)) (q : List Nat) : (OA d op g q).after.toList.map (·.on) = q := by
  simp [OA, Function.comp_def]
theorem astep_OA (d : Option Tmp) (op : Op) (g : Option (Nat × Bool)) (q : List Nat) (s : St) : astep K.P (R K) ops ro (OA d op g q) s = astep K.P (R K) ops ro (O d op g) s := by
  unfold astep
  have e1 : awanted ops s.tm (OA d op g q) = awanted ops s.tm (O d op g) := rfl
  have e2 : aeff K.P (R K) ops ro (OA d op g q) (ev s.tm) s.nx s.hp = aeff K.P (R K) ops ro (O d op g) (ev s.tm) s.nx s.hp := by cases op <;> rfl
  rw [e1, e2]
  rfl
def rdO (mu : List TypeId) (ops : Array Oper) (d : Option Tmp) : Op → Bool
  | .load t _ => !(feeds ops d && !mu.contains t)
  | .lookup .. => true
  | _ => false
def ftO (tm : List Cell) : Op → Option Nat
  | .load _ a => footOf (ev tm a).1
  | .lookup _ a _ _ => footOf (ev tm a).1
  | _ => none
theorem rdr_O (mu : List TypeId) (d : Option Tmp) (op : Op) (g : Option (Nat × Bool)) (q : List Nat) : rdr mu ops (OA d op g q) = rdO mu ops d op := rfl
theorem foot_O (d : Option Tmp) (op : Op) (g : Option (Nat × Bool)) (q : List Nat) (s : St) : footAt (OA d op g q) s = ftO s.tm op := rfl
@[simp] theorem OD_free (d : Option Tmp) (op : Op) (tm : List Cell) (nx : Nat) (hp : Heap) : OD K ops ro j (OA d op none q :: r) tr fs (some ⟨tm, nx, hp⟩) = ODn K ops ro j r tr fs q (rdO ro.mu ops d op) (ftO tm op) hp (W d tm (aeff K.P (R K) ops ro (O d op none) (ev tm) nx hp)) := by
  rw [OD_cons, OA_after, rdr_O, foot_O, astep_OA, astep_O]
@[simp] theorem OD_guard (d : Option Tmp) (op : Op) (i : Nat) (w : Bool) (tm : List Cell) (nx : Nat) (hp : Heap) : OD K ops ro j (OA d op (some (i, w)) q :: r) tr fs (some ⟨tm, nx, hp⟩) = ODn K ops ro j r tr fs q (rdO ro.mu ops d op) (ftO tm op) hp (Gt (W d tm (aeff K.P (R K) ops ro (O d op none) (ev tm) nx hp)) (W d tm (some ⟨.tup [], false, none, nx, hp⟩)) (gate2 ops[i]? tm w)) := by
  rw [OD_cons, OA_after, rdr_O, foot_O, astep_OA, astep_G]
@[simp] theorem gate2_A (t : Tmp) (op' : Op) (g' : Option (Nat × Bool)) (q : List Nat) (tm : List Cell) (w : Bool) : gate2 (some (OA (some t) op' g' q)) tm w = gate (some (getC tm t)) w := gate_getC tm t w
end
mutual
theorem same_refl : ∀ v : AVal, v.same v = true
  | .int k n => by simp [AVal.same]
  | .bool b => by simp [AVal.same]
  | .str s => by simp [AVal.same]
  | .agg l => by rw [AVal.same]; exact sames_refl l
  | .lst l => by rw [AVal.same]; exact sames_refl l
  | .tup l => by rw [AVal.same]; exact sames_refl l
  | .ptr i o => by simp [AVal.same]
  | .pel e o => by rw [AVal.same, same_refl e]; simp
  | .map i => by simp [AVal.same]
  | .sl a b c d e => by simp [AVal.same]
  | .clo f l m => by rw [AVal.same, sames_refl l, sames_refl m]; simp
  | .nilp => by simp [AVal.same]
  | .nilf => by simp [AVal.same]
  | .nilm => by simp [AVal.same]
  | .nils => by simp [AVal.same]
  | .bad => by simp [AVal.same]
theorem sames_refl : ∀ l : List AVal, sames l l = true
  | [] => by simp [sames]
  | v :: r => by rw [sames, same_refl v, sames_refl r]; rfl
end
theorem cellsSame_refl (l : List Cell) : cellsSame l l = true := by
  induction l with
  | nil => rfl
  | cons c r ih => obtain ⟨v, f⟩ := c; simp [cellsSame, same_refl, ih]
theorem pairsSame_refl (l : List (AVal × AVal)) : pairsSame l l = true := by
  induction l with
  | nil => rfl
  | cons c r ih => obtain ⟨v, f⟩ := c; simp [pairsSame, same_refl, ih]
@[simp] theorem blkSame_refl (b : Option ABlk) : blkSame b b = true := by
  cases b with
  | none => rfl
  | some b => cases b with | cells l => exact cellsSame_refl l | map l => exact pairsSame_refl l
@[simp] theorem stayB_some (h h' : Heap) (id : Nat) : stayB h h' (some id) = blkSame (hget h id) (hget h' id) := rfl
@[simp] theorem stayB_none (h h' : Heap) : stayB h h' none = true := rfl
@[simp] theorem footOf_ptr (id off : Nat) : footOf (.ptr id off) = some id := rfl
@[simp] theorem footOf_map (id : Nat) : footOf (.map id) = some id := rfl
@[simp] theorem footOf_pel (e : AVal) (off : Nat) : footOf (.pel e off) = none := rfl
attribute [simp] rdO ftO okT okF
/-! ### Loops -/
/-- The slots, those of S as f tells. -/
def mixAt (S : List Nat) (f : Nat → Cell) : Nat → List Cell → List Cell
  | _, [] => []
  | i, c :: r => (if S.contains i then f i else c) :: mixAt S f (i + 1) r
@[simp] theorem mixAt_nil (S : List Nat) (f : Nat → Cell) (i : Nat) : mixAt S f i [] = [] := rfl
@[simp] theorem mixAt_cons (S : List Nat) (f : Nat → Cell) (i : Nat) (c : Cell) (r : List Cell) : mixAt S f i (c :: r) = (if S.contains i then f i else c) :: mixAt S f (i + 1) r := rfl
theorem mix_self (S : List Nat) : ∀ (tm : List Cell) (i : Nat), mixAt S (fun j => getC tm (j - i)) i tm = tm := by
  have key : ∀ (r : List Cell) (i : Nat) (f : Nat → Cell), (∀ j c, r[j]? = some c → f (i + j) = c) → mixAt S f i r = r := by
    intro r
    induction r with
    | nil => intro i f _; rfl
    | cons c r ih =>
      intro i f h
      rw [mixAt_cons]
      have h0 := h 0 c rfl
      rw [Nat.add_zero] at h0
      rw [ih (i + 1) f fun j c' hj => by have := h (j + 1) c' (by simpa using hj); rw [← this]; congr 1; omega]
      split
      · rw [h0]
      · rfl
  intro tm i
  refine key tm i _ fun j c hj => ?_
  show getC tm (i + j - i) = c
  rw [Nat.add_sub_cancel_left, getC, hj]; rfl
/-- A loop whose rounds leave the heap alone: the slots S change, the measure falls, till a round leaves it. -/
theorem loop_at {K : Cfg} {ro : Md} {b : Code} {tm0 : List Cell} {nx : Nat} {hp : Heap} {o : Option (AExit × St)} (ho : X K ro (.loop b) ⟨tm0, nx, hp⟩ = o) (S : List Nat) (inv : Nat → (Nat → Cell) → Prop) (n0 : Nat) (h0 : inv n0 (getC tm0)) (done : Nat → (Nat → Cell) → Prop)
    (step : ∀ n f, inv n f → ¬ done n f → ∃ tm', X K ro b ⟨mixAt S f 0 tm0, nx, hp⟩ = some (.normal, ⟨tm', nx, hp⟩) ∧ mixAt S (getC tm') 0 tm0 = tm' ∧ ∃ n', n' < n ∧ inv n' (getC tm')) :
    ∃ n f, inv n f ∧ done n f ∧ o = XK K ro (.loop b) (X K ro b ⟨mixAt S f 0 tm0, nx, hp⟩) := by
  obtain ⟨n, tm, ⟨f, h1, rfl⟩, ⟨f', h2, h4, h3⟩, he⟩ := loop_run ho (fun _ n tm => ∃ f, inv n f ∧ tm = mixAt S f 0 tm0) n0 ⟨getC tm0, h0, (mix_self S tm0 0).symm⟩ (fun _ n tm => ∃ f, inv n f ∧ done n f ∧ tm = mixAt S f 0 tm0) (fun n tm ⟨f, hi, e⟩ => by
    subst e
    by_cases hd : done n f
    · exact .inl ⟨f, hi, hd, rfl⟩
    · obtain ⟨tm', q1, q2, n', q3, q4⟩ := step n f hi hd
      exact .inr ⟨n', tm', q3, ⟨_, q4, q2.symm⟩, q1⟩)
  rw [h3] at he
  exact ⟨n, f', h2, h4, he⟩
end Go.Proofs.YtleimfinniclgaaDoor.M
