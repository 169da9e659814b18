/- The machine: what each operation does. -/
import Derived.Test.YtleimfinniclgaaDoorMD
namespace Go.Proofs.YtleimfinniclgaaDoor.M
set_option linter.unusedVariables false

def ofCell : Value → AVal
  | .int k n => .int k n
  | .bool b => .bool b
  | .string s => .str s
  | .pointer none => .nilp
  | .nilFunc => .nilf
  | .map none => .nilm
  | .slice none 0 0 => .lst []
  | _ => .bad
def ofVal : Value → AVal
  | .agg cs => let l := cs.toList.map ofCell; if l.all AVal.one then .agg l else .bad
  | .tuple cs => if cs.size = 0 then .tup [] else .bad
  | v => ofCell v
def ofCellN : Value → AVal
  | .slice none 0 0 => .nils
  | v => ofCell v
def ofValN : Value → AVal
  | .agg cs => let l := cs.toList.map ofCellN; if l.all AVal.one then .agg l else .bad
  | v => ofVal v
def isNil : Value → Bool
  | .slice none 0 0 => true
  | _ => false
def ev (tm : List Cell) : Operand → Cell
  | .tmp t => (tm[t]?).getD (.bad, false)
  | .const v => (ofVal v, isNil v)
  | .func f => (.clo f [] [], false)
  | .global _ => (.bad, false)
def evv (tm : List Cell) (x : Operand) : AVal := (ev tm x).1

/-- t goes to append in this region. -/
def feeds (ops : Array Oper) (d : Option Tmp) : Bool := match d with
  | some t => ops.any fun o => match o.op with
    | .call c => match c.callee, c.args[0]? with
      | .builtin .append, some (Operand.tmp u) => u == t
      | _, _ => false
    | _ => false
  | none => false
/-- t is stored in this region. -/
def stored (ops : Array Oper) (d : Option Tmp) : Bool := match d with
  | some t => ops.any fun o => match o.op with
    | .store _ _ (.tmp u) => u == t
    | _ => false
  | none => false
/-- t is made in this region. -/
def makes (ops : Array Oper) (t : Tmp) : Bool := ops.any fun o => o.dst == some t

def aint : BinOp → IntKind → Int → Int → Option AVal
  | .add, k, x, y => some (.int k (k.wrap (x + y)))
  | .sub, k, x, y => some (.int k (k.wrap (x - y)))
  | .mul, k, x, y => some (.int k (k.wrap (x * y)))
  | .quo, k, x, y => if y = 0 then none else some (.int k (k.wrap (x.tdiv y)))
  | .rem, k, x, y => if y = 0 then none else some (.int k (x.tmod y))
  | .eql, _, x, y => some (.bool (x == y))
  | .neq, _, x, y => some (.bool (x != y))
  | .lss, _, x, y => some (.bool (decide (x < y)))
  | .leq, _, x, y => some (.bool (decide (x ≤ y)))
  | .gtr, _, x, y => some (.bool (decide (x > y)))
  | .geq, _, x, y => some (.bool (decide (x ≥ y)))
  | _, _, _, _ => none
def astr : BinOp → ByteArray → ByteArray → Option AVal
  | .add, x, y => if x.size + y.size ≤ 2 ^ 62 then some (.str (x ++ y)) else none
  | .eql, x, y => some (.bool (x.toList == y.toList))
  | .neq, x, y => some (.bool (!(x.toList == y.toList)))
  | .lss, x, y => some (.bool (Op.bytesLess x.toList y.toList))
  | .leq, x, y => some (.bool (Op.bytesLess x.toList y.toList || x.toList == y.toList))
  | .gtr, x, y => some (.bool (!(Op.bytesLess x.toList y.toList || x.toList == y.toList)))
  | .geq, x, y => some (.bool (!Op.bytesLess x.toList y.toList))
  | _, _, _ => none
def abin (op : BinOp) : AVal → AVal → Option AVal
  | .int k a, .int k' b => if k = k' then aint op k a b else none
  | .str a, .str b => astr op a b
  | _, _ => none
def aun : UnOp → AVal → Option AVal
  | .neg, .int k n => some (.int k (k.wrap (0 - n)))
  | .not, .bool b => some (.bool !b)
  | _, _ => none

def sizeT (P : Program) (t : TypeId) : Nat := ((P.info? t).map (·.size)).getD 0
def isAggT (P : Program) (t : TypeId) : Option Bool := match P.underlying t with | some (.struct _) | some (.array _ _) => some true | some _ => some false | none => none
def zeroT (P : Program) (t : TypeId) : Bool := ((P.info? t).bind (·.zero)).isSome
/-- Some cells, out of a row of them, as a value of type t. -/
def pick (P : Program) (t : TypeId) (cs : List AVal) (off : Nat) : Option AVal :=
  match isAggT P t with
  | some true => if off + sizeT P t ≤ cs.length then some (.agg ((cs.drop off).take (sizeT P t))) else none
  | some false => cs[off]?
  | none => none
/-- Equality of plain values, and of structs of them. -/
def aeq1 (P : Program) (t : TypeId) : AVal → AVal → Option Bool
  | .bool a, .bool b => match P.underlying t with
    | some .bool => some (a == b)
    | _ => none
  | .int k a, .int k' b => match P.underlying t with
    | some (.int _) => if k = k' then some (a == b) else none
    | _ => none
  | .str a, .str b => match P.underlying t with
    | some .string => some (a.toList == b.toList)
    | _ => none
  | _, _ => none
def aeqFs (P : Program) (xs ys : List AVal) : List Field → Option Bool
  | [] => some true
  | f :: r => if f.name ≠ "_" then match pick P f.type xs f.offset, pick P f.type ys f.offset with
      | some a, some b => match aeq1 P f.type a b with
        | some true => aeqFs P xs ys r
        | some false => some false
        | none => none
      | _, _ => none
    else aeqFs P xs ys r
def aeq (P : Program) (t : TypeId) : AVal → AVal → Option Bool
  | .agg xs, .agg ys => match P.underlying t with
    | some (.struct fs) => if P.stoodInHeld t = false ∧ P.eqGuardType P.depth t = false then aeqFs P xs ys fs.toList else none
    | _ => none
  | .bool a, .bool b => aeq1 P t (.bool a) (.bool b)
  | _, _ => none
def abinT (P : Program) (t : TypeId) (op : BinOp) : AVal → AVal → Option AVal
  | .int k a, .int k' b => abin op (.int k a) (.int k' b)
  | .str a, .str b => abin op (.str a) (.str b)
  | x, y => match op with
    | .eql => (aeq P t x y).map .bool
    | .neq => (aeq P t x y).map fun b => .bool !b
    | _ => none
def lsets (cs : List AVal) : Nat → List AVal → List AVal
  | _, [] => cs
  | i, v :: l => lsets (cs.set i v) (i + 1) l
def afill (place : Nat → Option (Nat × Nat)) : List AVal → List (Nat × AVal) → Option (List AVal)
  | cs, [] => some cs
  | cs, (i, v) :: r => match place i with
    | some (off, n) => if v.flat.length = n ∧ off + n ≤ cs.length ∧ v.flat.all AVal.one then afill place (lsets cs off v.flat) r else none
    | none => none
def abuild (P : Program) (nl : Bool) (t : TypeId) (parts : List (Nat × AVal)) : Option AVal :=
  match P.info? t, P.underlying t with
  | some it, some (.array _ e) =>
    match it.zero, P.info? e with
    | some z, some ie => match (if nl then ofValN z else ofVal z) with
      | .agg cs => (afill (fun i => some (i * ie.size, ie.size)) cs parts).map .agg
      | _ => none
    | _, _ => none
  | some it, some (.struct fields) =>
    match it.zero, fields.toList.mapM (fun f => (P.info? f.type).map fun i => (f.offset, i.size)) with
    | some z, some places => match (if nl then ofValN z else ofVal z) with
      | .agg cs => (afill (places.toArray[·]?) cs parts).map .agg
      | _ => none
    | _, _ => none
  | _, _ => none
/-- What an operation gives: a value (does it own?), the slot that gives up what it owns, the heap. -/
structure Out where
  v : AVal
  own : Bool
  clr : Option Tmp
  nx : Nat
  hp : Heap
def Out.val (nx : Nat) (hp : Heap) (v : AVal) : Out := ⟨v, false, none, nx, hp⟩
abbrev Rho := Operand → Cell
/-- How a body is run: variables from lo on may be written; slices of the types mu are arrays that change. -/
structure Md where
  lo : Nat
  mu : List TypeId := []
def abox (cs : List AVal) (nx : Nat) (hp : Heap) : Out := ⟨.ptr nx 0, false, none, nx + 1, (nx, .cells (cs.map fun v => (v, false))) :: hp⟩
def aload (P : Program) (ops : Array Oper) (ro : Md) (d : Option Tmp) (t : TypeId) (a : AVal) (nx : Nat) (hp : Heap) : Option Out :=
  match a with
  | .ptr id off => match hget hp id with
    | some (.cells cs) =>
      match isAggT P t with
      | some true => if off + sizeT P t ≤ cs.length then some (.val nx hp (.agg (((cs.drop off).take (sizeT P t)).map (·.1)))) else none
      | some false => match cs[off]? with
        | some (v, true) => if feeds ops d then (if v.nilL then some ⟨v, true, none, nx, hp⟩ else if !ro.mu.contains t && ro.lo ≤ id then some ⟨v, true, none, nx, hset hp id (.cells (cs.set off (v, false)))⟩ else some (.val nx hp v)) else some (.val nx hp v)
        | some (v, false) => some (.val nx hp v)
        | none => none
      | none => none
    | _ => none
  | .pel e off => (pick P t e.flat off).map (Out.val nx hp)
  | _ => none
def unown (cs : List AVal) : List Cell := cs.map fun v => (v, false)
def unS : AVal → Cell
  | .nils => (.lst [], true)
  | v => (v, false)
def unownS (cs : List AVal) : List Cell := cs.map unS
def astore (P : Program) (ops : Array Oper) (ro : Md) (t : TypeId) (a : AVal) (x : Operand) (c : Cell) (nx : Nat) (hp : Heap) : Option Out :=
  match a with
  | .ptr id off => match hget hp id with
    | some (.cells cs) =>
      if ro.lo ≤ id ∧ 0 < sizeT P t ∧ c.1.flat.length = sizeT P t ∧ off + c.1.flat.length ≤ cs.length ∧ c.1.flat.all AVal.one then
        match x, c with
        | .tmp u, (v, true) => if makes ops u ∧ sizeT P t = 1 then some ⟨.tup [], false, some u, nx, hset hp id (.cells (cs.set off (v, true)))⟩
          else some (.val nx (hset hp id (.cells (setCs cs off (unownS c.1.flat)))) (.tup []))
        | .const _, (.lst [], true) => some (.val nx (hset hp id (.cells (cs.set off (.lst [], true)))) (.tup []))
        | _, _ => some (.val nx (hset hp id (.cells (setCs cs off (unownS c.1.flat)))) (.tup []))
      else none
    | _ => none
  | _ => none

def ashift (o : Nat) : AVal → Option AVal
  | .ptr id off => some (.ptr id (off + o))
  | .pel e off => some (.pel e (off + o))
  | _ => none
def afield (P : Program) (t : TypeId) (x : AVal) (f : Nat) : Option AVal :=
  match P.underlying t with
  | some (.struct fs) => match fs[f]? with
    | some fd => if 0 < sizeT P fd.type then ashift fd.offset x else none
    | none => none
  | _ => none
def afieldv (P : Program) (t : TypeId) (x : AVal) (f : Nat) : Option AVal :=
  match P.underlying t, x with
  | some (.struct fs), .agg cs => match fs[f]? with
    | some fd => pick P fd.type cs fd.offset
    | none => none
  | _, _ => none
def aindexa (P : Program) (t : TypeId) (x i : AVal) : Option AVal :=
  match x, i with
  | .lst xs, .int _ n => if 0 ≤ n then (match xs[n.toNat]?, P.underlying t with
      | some e, some (.slice el) => if e.flat.length = sizeT P el then some (.pel e 0) else none
      | _, _ => none) else none
  | .sl id off len sz _, .int _ n => if 0 ≤ n ∧ n < len then (match P.underlying t with
      | some (.slice el) => if sizeT P el = sz ∧ 0 < sz then some (.ptr id (off + n.toNat * sz)) else none
      | _ => none) else none
  | _, _ => none
def aindex (P : Program) (t : TypeId) (x i : AVal) : Option AVal :=
  match x, i with
  | .str s, .int _ n => if 0 ≤ n then (match P.underlying t, s[n.toNat]? with | some .string, some b => some (.int .u8 b.toNat) | _, _ => none) else none
  | _, _ => none
def bound (v : Option AVal) (dflt : Nat) (most : Nat) : Option Nat :=
  match v with
  | none => some dflt
  | some (.int _ n) => if 0 ≤ n ∧ n ≤ most then some n.toNat else none
  | _ => none
def headOk (xs : List AVal) (n : Nat) : Bool := match xs with
  | x :: _ => x.flat.length == n
  | [] => true
def zeroOk (i : TypeInfo) : Bool := match i.zero with
  | some z => z.cells.size == i.size
  | none => false
def aslice (P : Program) (t : TypeId) (x : AVal) (lo hi mx : Option AVal) : Option AVal :=
  match mx, x, P.underlying t with
  | none, .str s, some .string => match bound hi s.size s.size with
    | some h => (bound lo 0 h).map fun l => .str (s.extract l h)
    | none => none
  | none, .lst xs, some (.slice e) => if headOk xs (sizeT P e) = true ∧ 0 < sizeT P e then match bound hi xs.length xs.length with
    | some h => (bound lo 0 h).map fun l => .lst ((xs.take h).drop l)
    | none => none
    else none
  | none, .sl id off len sz ag, some (.slice e) => if sizeT P e = sz ∧ 0 < sz then match bound hi len len with
    | some h => (bound lo 0 h).map fun l => if l < len ∨ l = 0 then .sl id (off + l * sz) (h - l) sz ag else .lst []
    | none => none
    else none
  | _, _, _ => none
def aappend (P : Program) (t : TypeId) (xs ys : List AVal) : Option AVal :=
  match P.underlying t with
  | some (.slice e) => match P.info? e with
    | some i => if i.bytes ≠ 0 ∧ headOk xs i.size = true ∧ headOk ys i.size = true ∧ zeroOk i = true ∧ (xs.length + ys.length) * i.bytes ≤ 140737488355328 then some (.lst (xs ++ ys)) else none
    | none => none
  | _ => none
/-- Maps: keys are numbers, strings, truths. -/
def akey (P : Program) (kt : TypeId) (k : AVal) : Bool := match P.underlying kt, k with
  | some (.int _), .int _ _ => true
  | some .string, .str _ => true
  | some .bool, .bool _ => true
  | _, _ => false
def akeq : AVal → AVal → Option Bool
  | .int k a, .int k' b => if k = k' then some (a == b) else none
  | .str a, .str b => some (a.toList == b.toList)
  | .bool a, .bool b => some (a == b)
  | _, _ => none
def afind (k : AVal) : List (AVal × AVal) → Nat → Option (Option (Nat × AVal))
  | [], _ => some none
  | (x, v) :: r, i => match akeq k x with
    | some true => some (some (i, v))
    | some false => afind k r (i + 1)
    | none => none
def azero (P : Program) (t : TypeId) : Option AVal := ((P.info? t).bind (·.zero)).map ofVal
def aok (ok : Bool) (b : Bool) (v : AVal) : AVal := if ok then .tup [v, .bool b] else v
def alookup (P : Program) (t : TypeId) (m k : AVal) (ok : Bool) (hp : Heap) : Option AVal := match P.underlying t with
  | some (.map kt et) => if akey P kt k then match m with
      | .nilm => (azero P et).map (aok ok false)
      | .map id => match hget hp id with
        | some (.map es) => match afind k es 0 with
          | some (some (_, v)) => some (aok ok true v)
          | some none => (azero P et).map (aok ok false)
          | none => none
        | _ => none
      | _ => none
    else none
  | _ => none
def amapset (P : Program) (lo : Nat) (t : TypeId) (m k v : AVal) (hp : Heap) : Option Heap := match P.underlying t with
  | some (.map kt _) => if akey P kt k then match m with
      | .map id => match hget hp id with
        | some (.map es) => if lo ≤ id then match afind k es 0 with
            | some (some (i, _)) => some (hset hp id (.map (es.set i (k, v))))
            | some none => some (hset hp id (.map (es ++ [(k, v)])))
            | none => none
          else none
        | _ => none
      | _ => none
    else none
  | _ => none
def amin : AVal → AVal → Option AVal
  | .int k x, .int _ y => some (.int k (if y < x then y else x))
  | _, _ => none
def amax : AVal → AVal → Option AVal
  | .int k x, .int _ y => some (.int k (if y > x then y else x))
  | _, _ => none
def alen (P : Program) (t : TypeId) (x : AVal) : Option AVal :=
  match P.underlying t, x with
  | some .string, .str s => some (.int .i64 s.size)
  | some (.slice _), .lst xs => some (.int .i64 xs.length)
  | some (.slice _), .sl _ _ n _ _ => some (.int .i64 n)
  | some (.map _ _), .nilm => some (.int .i64 0)
  | _, _ => none
def seqParts (parts : List (Nat × AVal)) (i : Nat) : Bool := match parts with
  | [] => true
  | (k, _) :: r => k == i && seqParts r (i + 1)

structure Res where
  v : AVal
  own : Bool
  nx : Nat
  hp : Heap
/-- What a call comes to. -/
abbrev CallF := FuncId → List AVal → Nat → Nat → Heap → Option Res
def aappendO (P : Program) (ts : List TypeId) (xs : List AVal) (y : AVal) (clr : Option Tmp) (nx : Nat) (hp : Heap) : Option Out :=
  match y, ts with
  | .lst ys, [t, t2] => match P.underlying t2 with
    | some (.slice _) => (aappend P t xs ys).map fun v => ⟨v, true, clr, nx, hp⟩
    | _ => none
  | _, _ => none
def appendsAt (mu : List TypeId) : List TypeId → Bool
  | t :: _ => mu.contains t
  | [] => false
/-- What a slice holds. -/
def cellsOf (P : Program) (e : TypeId) (y : AVal) (hp : Heap) : Option (Nat × List AVal) := match y with
  | .lst ys => if ys.all (fun y => y.flat.length == sizeT P e) then some (ys.length, flats ys) else none
  | .sl id off n sz _ => match hget hp id with
    | some (.cells cs) => if sz = sizeT P e ∧ off + n * sz ≤ cs.length then some (n, ((cs.drop off).take (n * sz)).map (·.1)) else none
    | _ => none
  | _ => none
def aappendM (P : Program) (lo : Nat) (ts : List TypeId) (x : Operand) (c : Cell) (y : AVal) (nx : Nat) (hp : Heap) : Option Out :=
  match ts with
  | [t, t2] => match P.underlying t, P.underlying t2 with
    | some (.slice e), some (.slice _) => match P.info? e, isAggT P e, cellsOf P e y hp with
      | some i, some ag, some (k, ys) => if i.bytes ≠ 0 ∧ 0 < i.size ∧ zeroOk i = true then match c with
        | (.lst [], true) => if k = 0 then some ⟨.lst [], true, (match x with | .tmp u => some u | _ => none), nx, hp⟩
            else if k * i.bytes ≤ 140737488355328 then some ⟨.sl nx 0 k i.size ag, false, none, nx + 1, (nx, .cells (unown ys)) :: hp⟩ else none
        | (.sl id 0 n sz _, _) => match hget hp id with
          | some (.cells cs) => if lo ≤ id ∧ sz = i.size ∧ n * sz ≤ cs.length ∧ (n + k) * i.bytes ≤ 140737488355328 then
              some ⟨.sl nx 0 (n + k) sz ag, false, none, nx + 1, (nx, .cells (unown ((cs.take (n * sz)).map (·.1) ++ ys))) :: hdel hp id⟩ else none
          | _ => none
        | _ => none
        else none
      | _, _, _ => none
    | _, _ => none
  | _ => none
def abuiltin (P : Program) (ro : Md) (b : Builtin) (ts : Array TypeId) (xs : Array Operand) (ρ : Rho) (nx : Nat) (hp : Heap) : Option Out :=
  match b, xs.toList with
  | .len, [x] => match ts.toList with
    | [t] => (alen P t (ρ x).1).map (Out.val nx hp)
    | _ => none
  | .min, x :: r => (r.foldlM (fun a y => amin a (ρ y).1) (ρ x).1).map (Out.val nx hp)
  | .max, x :: r => (r.foldlM (fun a y => amax a (ρ y).1) (ρ x).1).map (Out.val nx hp)
  | .append, [x, y] => if appendsAt ro.mu ts.toList then aappendM P ro.lo ts.toList x (ρ x) (ρ y).1 nx hp else match x, ρ x with
    | .tmp u, (.lst xs, true) => aappendO P ts.toList xs (ρ y).1 (some u) nx hp
    | .const _, (.lst [], true) => aappendO P ts.toList [] (ρ y).1 none nx hp
    | _, _ => none
  | _, _ => none
def amove (take : Bool) (x : Operand) (c : Cell) (nx : Nat) (hp : Heap) : Option Out :=
  match x, c with
  | .tmp t, (v, true) => if take then some ⟨v, true, some t, nx, hp⟩ else some (.val nx hp v)
  | .const _, (v, b) => some ⟨v, b, none, nx, hp⟩
  | _, (v, _) => some (.val nx hp v)
def aeff0 (P : Program) (ops : Array Oper) (ro : Md) (o : Oper) (ρ : Rho) (nx : Nat) (hp : Heap) : Option Out :=
  let val (v : Option AVal) : Option Out := v.map (Out.val nx hp)
  match o.op with
  | .move x => amove (feeds ops o.dst) x (ρ x) nx hp
  | .assign x => amove (match x with | .tmp t => makes ops t | _ => false) x (ρ x) nx hp
  | .pick c a b => match (ρ c).1 with
    | .bool q => some (.val nx hp (if q then (ρ a).1 else (ρ b).1))
    | _ => none
  | .alloc t => match (P.info? t).bind (·.zero) with
    | some z => if (z.cells.toList.map ofCell).all AVal.one then some ⟨.ptr nx 0, false, none, nx + 1, (nx, .cells (z.cells.toList.map fun c => (ofCell c, isNil c))) :: hp⟩ else none
    | none => none
  | .box t x => if (ρ x).1.flat.all AVal.one then some (abox (ρ x).1.flat nx hp) else none
  | .build t ps => val (abuild P (stored ops o.dst) t (ps.toList.map fun p => (p.1, (ρ p.2).1)))
  | .buildSlice t len ps => match P.underlying t with
    | some (.slice e) => let xs := ps.toList.map fun p => (p.1, (ρ p.2).1)
      if seqParts xs 0 ∧ xs.length = len ∧ len * sizeT P e ≤ 2 ^ 24 ∧ xs.all (fun p => p.2.flat.length == sizeT P e && p.2.flat.all AVal.one) ∧ 0 < sizeT P e ∧ zeroT P e = true then (if ro.mu.contains t then some ⟨.sl nx 0 len (sizeT P e) ((isAggT P e).getD false), false, none, nx + 1, (nx, .cells (unown (flats (xs.map (·.2))))) :: hp⟩ else some ⟨.lst (xs.map (·.2)), true, none, nx, hp⟩) else none
    | _ => none
  | .load t a => aload P ops ro o.dst t (ρ a).1 nx hp
  | .store t a x => astore P ops ro t (ρ a).1 x (ρ x) nx hp
  | .nilCheck x => match (ρ x).1 with
    | .ptr i k => some (.val nx hp (.ptr i k))
    | .pel e k => some (.val nx hp (.pel e k))
    | .clo f a b => some (.val nx hp (.clo f a b))
    | _ => none
  | .binOp op t x y _ => val (abinT P t op (ρ x).1 (ρ y).1)
  | .unOp op _ x => val (aun op (ρ x).1)
  | .makeFunc (.func f) a b => some (.val nx hp (.clo f (a.toList.map fun x => (ρ x).1) (b.toList.map fun x => (ρ x).1)))
  | .slice t x lo hi mx => val (aslice P t (ρ x).1 (lo.map fun x => (ρ x).1) (hi.map fun x => (ρ x).1) (mx.map fun x => (ρ x).1))
  | .fieldAddr t x f => val (afield P t (ρ x).1 f)
  | .field t x f => val (afieldv P t (ρ x).1 f)
  | .indexAddr t x i => val (aindexa P t (ρ x).1 (ρ i).1)
  | .index t x i => val (aindex P t (ρ x).1 (ρ i).1)
  | .makeMap t none => match P.underlying t with
    | some (.map _ _) => some ⟨.map nx, false, none, nx + 1, (nx, .map []) :: hp⟩
    | _ => none
  | .lookup t m k ok => val (alookup P t (ρ m).1 (ρ k).1 ok hp)
  | .insert t m k v => (amapset P ro.lo t (ρ m).1 (ρ k).1 (ρ v).1 hp).map fun h => ⟨.tup [], false, none, nx, h⟩
  | .mapUpdate t m k v => (amapset P ro.lo t (ρ m).1 (ρ k).1 (ρ v).1 hp).map fun h => ⟨.tup [], false, none, nx, h⟩
  | .extract x i => match (ρ x).1 with
    | .tup vs => val vs[i]?
    | _ => none
  | _ => none
def acall (P : Program) (call : CallF) (ro : Md) (c : Call) (ρ : Rho) (nx : Nat) (hp : Heap) : Option Out :=
  match c.callee with
  | .builtin b => abuiltin P ro b c.argTypes c.args ρ nx hp
  | .value f => match (ρ f).1 with
    | .clo g fs cs => match call g (fs ++ c.args.toList.map (fun x => (ρ x).1) ++ cs) ro.lo nx hp with
      | some r => some ⟨r.v, r.own, none, r.nx, r.hp⟩
      | none => none
    | _ => none
  | _ => none
def aeff (P : Program) (call : CallF) (ops : Array Oper) (ro : Md) (o : Oper) (ρ : Rho) (nx : Nat) (hp : Heap) : Option Out :=
  match o.op with
  | .call c => acall P call ro c ρ nx hp
  | _ => aeff0 P ops ro o ρ nx hp

/-- One operation after the other. -/
def gate (x : Option Cell) (w : Bool) : Option Bool := match x with
  | some (.bool b, _) => some (b == w)
  | some (.bad, _) => none
  | some _ => some false
  | none => none
def awanted (ops : Array Oper) (tm : List Cell) (o : Oper) : Option Bool :=
  match o.guard with
  | none => some true
  | some (j, want) => match (ops[j]?).bind (·.dst) with
    | some t => gate tm[t]? want
    | none => some false
def unflag (tm : List Cell) (t : Tmp) : List Cell := match tm[t]? with
  | some c => tm.set t (c.1, false)
  | none => tm
def Out.put (o : Out) (dst : Option Tmp) (tm : List Cell) : St :=
  let tm := match o.clr with | some t => unflag tm t | none => tm
  { tm := match dst with | some d => tm.set d (o.v, o.own) | none => tm, nx := o.nx, hp := o.hp }
def astep (P : Program) (call : CallF) (ops : Array Oper) (ro : Md) (o : Oper) (s : St) : Option St :=
  match awanted ops s.tm o with
  | some true => (aeff P call ops ro o (ev s.tm) s.nx s.hp).map fun q => q.put o.dst s.tm
  | some false => some ((Out.val s.nx s.hp (.tup [])).put o.dst s.tm)
  | none => none
def aops (P : Program) (call : CallF) (ops : Array Oper) (ro : Md) : List Oper → St → Option St
  | [], s => some s
  | o :: r, s => (astep P call ops ro o s).bind (aops P call ops ro r)

/-- Who may take what a slot owns. -/
def srcOf (ops : Array Oper) (o : Oper) : Option Tmp := match o.op with
  | .move (.tmp t) => if feeds ops o.dst then some t else none
  | .assign (.tmp t) => if makes ops t then some t else none
  | .store _ _ (.tmp t) => if makes ops t then some t else none
  | .call c => match c.callee, c.args.toList with
    | .builtin .append, [.tmp t, _] => some t
    | _, _ => none
  | _ => none
def tmpsOf (l : List Operand) : List Tmp := l.filterMap fun | .tmp t => some t | _ => none
def namesOf (ops : Array Oper) (o : Oper) : List Tmp := tmpsOf o.op.operands.toList ++ (match o.guard with | some (j, _) => ((ops[j]?).bind (·.dst)).toList | none => [])
def pureCall (pure : FuncId → Bool) (c : Call) : Bool := match c.callee with
  | .value (.func f) => pure f
  | _ => false
def appendsTo (mu : List TypeId) (c : Call) : Bool := appendsAt mu c.argTypes.toList
def effectful (mu : List TypeId) (pure : FuncId → Bool) (ops : Array Oper) (o : Oper) : Bool := match o.op with
  | .buildSlice t _ _ => mu.contains t
  | .store .. | .box .. | .alloc .. | .makeMap .. | .mapUpdate .. | .insert .. => true
  | .load t _ => feeds ops o.dst && !mu.contains t
  | .call c => match c.callee with
    | .builtin _ => appendsTo mu c
    | _ => !pureCall pure c
  | _ => false
/-- vl: calls whose answer hangs on their arguments alone. -/
def heapy (vl : FuncId → Bool) (mu : List TypeId) (o : Oper) : Bool := match o.op with
  | .buildSlice t _ _ => mu.contains t
  | .store .. | .box .. | .alloc .. | .load .. | .makeMap .. | .mapUpdate .. | .insert .. | .lookup .. => true
  | .call c => match c.callee with
    | .builtin _ => appendsTo mu c
    | _ => !pureCall vl c
  | _ => false
def apartD (d : Option Tmp) (l : List Tmp) : Bool := match d with
  | some d => !l.contains d
  | none => true
/-- Neither writes what the other one names. -/
def slotsOk (ops : Array Oper) (a b : Oper) : Bool :=
  apartD a.dst (b.dst.toList ++ namesOf ops b) && apartD b.dst (a.dst.toList ++ namesOf ops a) &&
  (match srcOf ops a, srcOf ops b with | some x, some y => x != y | _, _ => true)
/-- What functions are: pure ones change nothing, those of vl do not look at the heap; sl: regions tell themselves which pairs are to be looked at. -/
structure Knd where
  pure : FuncId → Bool
  vl : FuncId → Bool
  sl : Bool
/-- The order of the two does not matter. -/
def indep (kd : Knd) (mu : List TypeId) (ops : Array Oper) (a b : Oper) : Bool :=
  slotsOk ops a b && !(effectful mu kd.pure ops a && heapy kd.vl mu b) && !(heapy kd.vl mu a && effectful mu kd.pure ops b)
/-- A reader of one variable. -/
def rdr (mu : List TypeId) (ops : Array Oper) (o : Oper) : Bool := match o.op with
  | .load t _ => !(feeds ops o.dst && !mu.contains t)
  | .lookup .. => true
  | _ => false
/-- The order of the two does not matter if the variable stays. -/
def dynp (kd : Knd) (mu : List TypeId) (ops : Array Oper) (a b : Oper) : Bool :=
  slotsOk ops a b && ((rdr mu ops a && effectful mu kd.pure ops b) || (effectful mu kd.pure ops a && rdr mu ops b))
/-- An operation that makes nothing and looks at what its slots and the heap hold alone. -/
def tame (mu : List TypeId) (ops : Array Oper) (o : Oper) : Bool := o.guard.isNone && match o.op with
  | .move (.tmp _) => !feeds ops o.dst
  | .load _ (.tmp _) => !feeds ops o.dst
  | .fieldAddr _ (.tmp _) _ => true
  | .indexAddr _ (.tmp _) _ => true
  | .binOp .. => true
  | .call c => match c.callee with
    | .builtin .len => !appendsTo mu c
    | _ => false
  | _ => false
def allocs (o : Oper) : Option (TypeId × Tmp) := match o.guard, o.op, o.dst with
  | none, .alloc t, some d => some (t, d)
  | _, _, _ => none
/-- Two new variables of one type side by side: what comes before is tame, what comes behind comes behind both. -/
def pairAt (mu : List TypeId) (ops : Array Oper) (b : Array Nat) (i : Nat) : Bool := match (ops[i]?).bind allocs, (ops[i + 1]?).bind allocs with
  | some (t, x), some (t', y) => t == t' && x != y && b.getD i 0 == 0 && b.getD (i + 1) 0 == 0 && (ops.toList.take i).all (fun o => tame mu ops o && apartD (some x) (o.dst.toList ++ namesOf ops o) && apartD (some y) (o.dst.toList ++ namesOf ops o)) &&
    (List.range ops.size).all fun k => decide (k ≤ i + 1) || ((b.getD k 0).testBit i && (b.getD k 0).testBit (i + 1))
  | _, _ => false
def swapAt (mu : List TypeId) (ops : Array Oper) (b : Array Nat) : Option Nat := (List.range ops.size).find? (pairAt mu ops b)
/-- The pairs that are to be looked at: for each operation the earlier ones. -/
def qRaw (kd : Knd) (mu : List TypeId) (ops : Array Oper) (b : Array Nat) : List (List Nat) := ops.toList.zipIdx.map fun p => (List.range p.2).filter fun i => match ops[i]? with
  | some a => !(b.getD p.2 0).testBit i && !indep kd mu ops a p.1 && !(swapAt mu ops b == some i && p.2 == i + 1)
  | none => false
def qMark (l : List (List Nat)) : List (List Nat) := l.zipIdx.map fun p => if l.any (·.contains p.2) then p.2 :: p.1 else p.1
/-- The list is an order that the edges of gc's own order allow. -/
def topoGo (ops : Array Oper) : List Nat → List Nat → Bool
  | _, [] => true
  | seen, i :: r => (match ops[i]? with | some o => o.after.all (fun e => !Region.binds .gc e || seen.contains e.on) | none => false) && topoGo ops (i :: seen) r
def gcGoes (ops : Array Oper) : Bool :=
  let l := Region.linearise .gc ops 0
  (List.range ops.size).all l.contains && topoGo ops [] l
def qOk (kd : Knd) (mu : List TypeId) (ops : Array Oper) (l : List (List Nat)) : Bool :=
  ops.toList.zipIdx.all (fun p => p.1.after.all (fun e => decide (e.on < p.2) || (!Region.binds .any e && !Region.binds .text e))) && (!Region.departs ops || gcGoes ops) &&
  (ops.toList.zip l).all fun p => p.2.all fun i => match ops[i]? with | some a => dynp kd mu ops a p.1 | none => false
def qAll (kd : Knd) (mu : List TypeId) (ops : Array Oper) : Option (List (List Nat)) :=
  let l := qRaw kd mu ops (Region.before ops)
  if qOk kd mu ops l then some (qMark l) else none
def qOf (kd : Knd) (mu : List TypeId) (ops : Array Oper) : Option (List (List Nat)) := if kd.sl then some (ops.toList.map fun o => o.after.toList.map (·.on)) else qAll kd mu ops
mutual
def AVal.same : AVal → AVal → Bool
  | .int k n, .int k' n' => k == k' && n == n'
  | .bool b, .bool b' => b == b'
  | .str s, .str s' => s.data.toList == s'.data.toList
  | .agg l, .agg l' => sames l l'
  | .lst l, .lst l' => sames l l'
  | .tup l, .tup l' => sames l l'
  | .ptr i o, .ptr i' o' => i == i' && o == o'
  | .pel e o, .pel e' o' => e.same e' && o == o'
  | .map i, .map i' => i == i'
  | .sl a b c d e, .sl a' b' c' d' e' => a == a' && b == b' && c == c' && d == d' && e == e'
  | .clo f l m, .clo f' l' m' => f == f' && sames l l' && sames m m'
  | .nilp, .nilp => true
  | .nilf, .nilf => true
  | .nilm, .nilm => true
  | .nils, .nils => true
  | .bad, .bad => true
  | _, _ => false
def sames : List AVal → List AVal → Bool
  | [], [] => true
  | v :: r, v' :: r' => v.same v' && sames r r'
  | _, _ => false
end
def cellsSame : List Cell → List Cell → Bool
  | [], [] => true
  | (v, f) :: r, (v', f') :: r' => v.same v' && f == f' && cellsSame r r'
  | _, _ => false
def pairsSame : List (AVal × AVal) → List (AVal × AVal) → Bool
  | [], [] => true
  | (v, u) :: r, (v', u') :: r' => v.same v' && u.same u' && pairsSame r r'
  | _, _ => false
def blkSame : Option ABlk → Option ABlk → Bool
  | some (.cells a), some (.cells b) => cellsSame a b
  | some (.map a), some (.map b) => pairsSame a b
  | none, none => true
  | _, _ => false
def stayB (h h' : Heap) : Option Nat → Bool
  | some id => blkSame (hget h id) (hget h' id)
  | none => true
/-- The variable that a reader reads. -/
def footOf : AVal → Option Nat
  | .ptr id _ => some id
  | .map id => some id
  | _ => none
def footAt (o : Oper) (s : St) : Option Nat := match o.op with
  | .load _ a => footOf (ev s.tm a).1
  | .lookup _ a _ _ => footOf (ev s.tm a).1
  | _ => none
/-- One operation after the other; the pairs are looked at. -/
def okT (j : Nat) (f : Option Nat) (tr : List (Nat × Heap × Heap)) (q : List Nat) : Bool := q.all fun i => i == j || match tr.lookup i with | some h => stayB h.1 h.2 f | none => false
def okF (j : Nat) (h h' : Heap) (fs : List (Nat × Option Nat)) (q : List Nat) : Bool := q.all fun i => i == j || match fs.lookup i with | some f => stayB h h' f | none => false
def aopsD (P : Program) (call : CallF) (ops : Array Oper) (ro : Md) : Nat → List (Oper × List Nat) → List (Nat × Heap × Heap) → List (Nat × Option Nat) → St → Option St
  | _, [], _, _, s => some s
  | j, (o, q) :: r, tr, fs, s => match astep P call ops ro o s with
    | some s' => if rdr ro.mu ops o then (if okT j (footAt o s) tr q then aopsD P call ops ro (j + 1) r tr (if q.contains j then (j, footAt o s) :: fs else fs) s' else none)
        else if okF j s.hp s'.hp fs q then aopsD P call ops ro (j + 1) r (if q.contains j then (j, s.hp, s'.hp) :: tr else tr) fs s' else none
    | none => none
def areg (P : Program) (kd : Knd) (call : CallF) (ops : Array Oper) (ro : Md) (d : Bool) (s : St) : Option St :=
  if d then match qOf kd ro.mu ops with
    | some q => aopsD P call ops ro 0 (ops.toList.zip q) [] [] s
    | none => none
  else aops P call ops ro ops.toList s

inductive AExit where
  | normal | ret | exit (id : Nat)
def aexec (P : Program) (kd : Knd) (call : CallF) (ro : Md) : Nat → Code → St → Option (AExit × St)
  | 0, _, _ => none
  | n + 1, .skip, s => some (.normal, s)
  | n + 1, .region _ ops d, s => (areg P kd call ops ro d s).map fun s => (.normal, s)
  | n + 1, .seq a b, s => match aexec P kd call ro n a s with
    | some (.normal, s) => aexec P kd call ro n b s
    | r => r
  | n + 1, .cond c a b, s => match evv s.tm c with
    | .bool q => if q then aexec P kd call ro n a s else aexec P kd call ro n b s
    | _ => none
  | n + 1, .block id b, s => match aexec P kd call ro n b s with
    | some (.exit j, s) => if j = id then some (.normal, s) else some (.exit j, s)
    | r => r
  | n + 1, .loop b, s => match aexec P kd call ro n b s with
    | some (.normal, s) => aexec P kd call ro n (.loop b) s
    | r => r
  | n + 1, .scope b, s => none
  | n + 1, .exit id, s => some (.exit id, s)
  | n + 1, .ret, s => some (.ret, s)
  | _ + 1, _, _ => none
def ares (P : Program) (s : St) : ResultVar → Option Cell
  | .tmp t => s.tm[t]?
  | .cell a t => match s.tm[a]? with
    | some (v, _) => (aload P #[] ⟨s.nx, []⟩ none t v s.nx s.hp).map fun q => (q.v, q.own)
    | none => none
def areslist (P : Program) (s : St) : List ResultVar → Option (List AVal)
  | [] => some []
  | r :: l => match ares P s r, areslist P s l with
    | some (v, _), some vs => some (v :: vs)
    | _, _ => none
def aresults (P : Program) (rs : List ResultVar) (s : St) : Option Cell :=
  match rs with
  | [r] => ares P s r
  | rs => (areslist P s rs).map fun vs => (.tup vs, false)
mutual
def AVal.idsLt (n : Nat) : AVal → Bool
  | .agg cs => idsLts n cs
  | .lst xs => idsLts n xs
  | .tup vs => idsLts n vs
  | .ptr id _ => decide (id < n)
  | .sl id _ _ _ _ => decide (id < n)
  | .pel e _ => e.idsLt n
  | .map id => decide (id < n)
  | .clo _ fs cs => idsLts n fs && idsLts n cs
  | _ => true
def idsLts (n : Nat) : List AVal → Bool
  | [] => true
  | v :: r => v.idsLt n && idsLts n r
end
/-- The elements that cells are. -/
def chunks (sz : Nat) : Nat → List AVal → List AVal
  | 0, _ => []
  | k + 1, us => .agg (us.take sz) :: chunks sz k (us.drop sz)
def chop (ag : Bool) (sz n : Nat) (us : List AVal) : List AVal := if ag then chunks sz n us else us
def mapO (f : AVal → Option AVal) : List AVal → Option (List AVal)
  | [] => some []
  | v :: r => match f v, mapO f r with
    | some u, some us => some (u :: us)
    | _, _ => none
def fzv (lo : Nat) (hp : Heap) (g : AVal → Option AVal) : AVal → Option AVal
  | .sl id off len sz ag => match hget hp id with
    | some (.cells cs) => if lo ≤ id ∧ 0 < sz ∧ (ag = true ∨ sz = 1) ∧ off + len * sz ≤ cs.length then (mapO g (((cs.drop off).take (len * sz)).map (·.1))).map fun us => .lst (chop ag sz len us) else none
    | _ => none
  | .agg cs => (mapO g cs).map .agg
  | .tup cs => (mapO g cs).map .tup
  | _ => none
/-- A value without the arrays from lo on: they change no more. -/
def fz (lo : Nat) (hp : Heap) : Nat → AVal → Option AVal
  | 0, v => if v.idsLt lo then some v else none
  | n + 1, v => if v.idsLt lo then some v else fzv lo hp (fz lo hp n) v
def hclean (n : Nat) (hp : Heap) : Bool := hp.all fun p => !decide (p.1 < n) || match p.2 with
  | .cells cs => cs.all fun c => c.1.idsLt n
  | .map es => es.all fun p => p.1.idsLt n && p.2.idsLt n
/-- Code, run for at most so many rounds, out of a function that tells what calls come to. -/
def abody (P : Program) (kd : Knd) (call : CallF) (n : Nat) (ro : Md) (fn : Func) (args : List AVal) (nx : Nat) (hp : Heap) : Option Res :=
  match fn.body with
  | some c => match aexec P kd call ro n c { tm := args.map (·, false) ++ List.replicate (fn.ntmps - args.length) (.tup [], false), nx, hp } with
    | some (.normal, s) | some (.ret, s) => (aresults P fn.results.toList s).map fun (v, own) => ⟨v, own, s.nx, s.hp⟩
    | _ => none
  | none => none
end Go.Proofs.YtleimfinniclgaaDoor.M
