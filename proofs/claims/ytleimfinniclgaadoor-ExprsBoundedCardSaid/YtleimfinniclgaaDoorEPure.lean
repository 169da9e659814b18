/- Expressions, in plain words. -/
import Derived.Test.YtleimfinniclgaaDoorPure
namespace Go.Proofs.YtleimfinniclgaaDoor.X
open Go

inductive Ex where
  | mk (op n : Int) (name : ByteArray) (args : List Ex)
def Ex.op : Ex → Int | .mk o _ _ _ => o
def Ex.n : Ex → Int | .mk _ n _ _ => n
def Ex.name : Ex → ByteArray | .mk _ _ s _ => s
def Ex.args : Ex → List Ex | .mk _ _ _ a => a
def arityF (op : Int) : Int := if ¬ (1 ≤ op ∧ op ≤ 9) then -1 else if op ≤ 2 then 0 else if op = 8 then 1 else if op = 9 then 3 else 2
/-- What is wrong with an expression's own parts. -/
def exOwn (x : Ex) (d : Int) : Int :=
  if 20 < d then 2 else if arityF x.op < 0 then 4 else
  if (x.args.length : Int) ≠ arityF x.op ∨ (x.op ≠ 1 ∧ x.n ≠ 0) ∨ (x.op ≠ 2 ∧ x.name.toList ≠ []) then 3 else
  if ¬ (0 ≤ x.n ∧ x.n ≤ 999) then 1 else if x.op = 2 ∧ nameB x.name = false then 5 else 0
mutual
def exF : Ex → Int → Int
  | .mk o n s a, d => if exOwn (.mk o n s a) d = 0 then exsF a (d + 1) else exOwn (.mk o n s a) d
def exsF : List Ex → Int → Int
  | [], _ => 0
  | x :: r, d => if exF x d = 0 then exsF r d else exF x d
end
theorem exF_eq (x : Ex) (d : Int) : exF x d = if exOwn x d = 0 then exsF x.args (d + 1) else exOwn x d := by
  cases x
  rw [exF]
  rfl
theorem exsF_eq (d : Int) : ∀ l : List Ex, exsF l d = errFirst (fun x => exF x d) l
  | [] => by rw [exsF]; rfl
  | x :: r => by rw [exsF, errFirst, exsF_eq d r]
theorem arityF_three (op : Int) : arityF op ≤ 3 := by
  unfold arityF
  split
  · decide
  · split
    · decide
    · split
      · decide
      · split <;> decide
end Go.Proofs.YtleimfinniclgaaDoor.X
