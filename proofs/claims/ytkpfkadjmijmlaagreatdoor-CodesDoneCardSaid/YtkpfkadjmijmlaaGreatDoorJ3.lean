/- Texts of this claim, joined: Expressions, in plain words. -/
import Derived.Orders
import Derived.Sort.Grow
import Derived.Sort.EncStr
import Derived.Sort.KeysCollected
import Derived.Sort.OwnSorted
import Derived.StringKeys
import Derived.Lib.SlicesCompact
import Derived.Lib.Bytealg
import Derived.Lib.IndexLaws
import Derived.Lib.SlTrimSet
import Derived.Shelf.Strings.Builder1
import Derived.Shelf.Strings.Builder2
import Derived.Shelf.Strings.Trim
import Derived.Shelf.Small.Utf8
import Derived.Shelf.Small.Bits
import Derived.Shelf.Small.Strs
import Derived.Shelf.Small.Wraps
import Derived.Shelf.Strings.BuilderF
import Derived.Shelf.Strconv.Itoa0
import Derived.Shelf.Strconv.Itoa1
import Derived.Shelf.LaysM
import Derived.Shelf.Strconv.Itoa2
import Derived.Shelf.Strconv.Itoa3
import Derived.Shelf.Strings.Search1
import Derived.Shelf.Strings.Prefix
import Derived.Shelf.Unicode.Decode
import Derived.Shelf.Strings.Runes
import Derived.Shelf.Strings.AsciiSet
import Derived.Shelf.Bits.Mul64
import Derived.Shelf.Strings.Repeat
import Derived.Shelf.Unicode.DecodeSlow
import Derived.Shelf.Unicode.DecodeAny
import Derived.Shelf.Unicode.DecodeLast
import Derived.Shelf.Slices.Turned
import Derived.Shelf.Slices.Reverse
import Derived.Ground.Names2Prog
import Derived.Shelf.Slices.Clone
import Derived.Shelf.Slices.SearchI
import Derived.Shelf.Slices.Cells
import Derived.Ground.SlgnProg
import Derived.Shelf.SlicesE.Clone
import Derived.Ground.SlgmProg
import Derived.Shelf.SortM.Plain
import Derived.Shelf.SortM.SortNone
import Derived.Test.YtkpfkadjmijmlaaGreatDoorProg
import Derived.Shelf.Strings.SlTrimAscii
import Derived.Below
import Derived.Deep.Draws
import Derived.Deep.AppendLies
import Derived.Maps.AppendAt
import Derived.OwnWalk
import Derived.Laws.BytesArg
import Derived.Laws.MakeOwn
import Derived.Laws.OwnMore
import Derived.Deep.OwnRows
import Derived.Tactics
import Derived.Lib.ConvBytes
import Derived.Laws.Slices
import Derived.WalkKit
import Derived.KernelRfl
import Derived.RowKit3
import Derived.Deep.LoopGhost
import Derived.Deep.QuietTactic
import Derived.BigQuiet
import Derived.WideLaws
import Derived.Deep.DeepCutAuto
import Derived.Deep.CutBlock
import Derived.Deep.RegionHeld3
import Derived.Laws.Rows
import Derived.Lib.AppendStr
import Derived.ArgAppend
import Derived.Laws.IdiomCopy
import Derived.OrdersHeld
import Derived.Laws.BitsLemmas
import Derived.RowKit
import Derived.Lib.Hide
import Derived.WalkSpells
import Derived.Outline
import Derived.Lib.SlicesS
import Derived.Test.YtkpfkadjmijmlaaGreatDoorJ2
/- Any order that is drawn. -/
namespace Go.Proofs.YtkpfkadjmijmlaaGreatDoor.M
open Go
set_option linter.unusedVariables false
variable {P : Program} {kd : Knd} {call : CallF} {ops : Array Oper} {ro : Md}

def bOne (look : Nat → Nat) (o : Oper) : Nat := o.after.foldl (fun s e => if Region.binds .any e then s ||| 2 ^ e.on ||| look e.on else s) 0
def bPush (acc : Array Nat) (o : Oper) : Array Nat := acc.push (bOne (fun i => acc.getD i 0) o)
theorem bOne_bit {look : Nat → Nat} {i : Nat} : ∀ (l : List Edge) (s : Nat), (l.foldl (fun s e => if Region.binds .any e then s ||| 2 ^ e.on ||| look e.on else s) s).testBit i = true → s.testBit i = true ∨ ∃ e ∈ l, Region.binds .any e = true ∧ (e.on = i ∨ (look e.on).testBit i = true) := by
  intro l
  induction l with
  | nil => intro s h; exact .inl h
  | cons e l ih =>
    intro s h
    rw [List.foldl_cons] at h
    rcases ih _ h with h | ⟨e', he, h⟩
    · split at h
      · rename_i hbe
        rw [Nat.testBit_or, Nat.testBit_or, Bool.or_eq_true, Bool.or_eq_true, Nat.testBit_two_pow] at h
        rcases h with (h | h) | h
        · exact .inl h
        · exact .inr ⟨e, by simp, hbe, .inl (by simpa using h)⟩
        · exact .inr ⟨e, by simp, hbe, .inr h⟩
      · exact .inl h
    · exact .inr ⟨e', by simp [he], h⟩
theorem bPush_getD (A : Array Nat) (o : Oper) (j : Nat) (h : j < A.size) : (bPush A o).getD j 0 = A.getD j 0 := by
  simp [bPush, Array.getD_eq_getD_getElem?, Array.getElem?_push, Nat.ne_of_lt h]
theorem bFold_getD : ∀ (l : List Oper) (A : Array Nat) (j : Nat), j < A.size → (l.foldl bPush A).getD j 0 = A.getD j 0 := by
  intro l
  induction l with
  | nil => intro A j _; rfl
  | cons o l ih =>
    intro A j h
    rw [List.foldl_cons, ih _ _ (by simp [bPush]; omega), bPush_getD A o j h]
theorem bFold_bit : ∀ (l : List Oper) (A : Array Nat) (k : Nat) (o : Oper) (i : Nat), l[k]? = some o → ((l.foldl bPush A).getD (A.size + k) 0).testBit i = true →
    ∃ e ∈ o.after, Region.binds .any e = true ∧ (e.on = i ∨ ((l.foldl bPush A).getD e.on 0).testBit i = true) := by
  intro l
  induction l with
  | nil => intro A k o i h; simp at h
  | cons x l ih =>
    intro A k o i h hb
    rw [List.foldl_cons] at hb ⊢
    cases k with
    | zero =>
      simp at h; subst h
      have hs : A.size < (bPush A x).size := by simp [bPush]
      rw [Nat.add_zero, bFold_getD l _ _ hs] at hb
      have : (bPush A x).getD A.size 0 = bOne (fun i => A.getD i 0) x := by simp [bPush, Array.getD_eq_getD_getElem?]
      rw [this] at hb
      unfold bOne at hb
      rw [← Array.foldl_toList] at hb
      rcases bOne_bit (look := fun i => A.getD i 0) _ _ hb with h | ⟨e, he, hbe, h⟩
      · simp at h
      · refine ⟨e, by simpa using he, hbe, h.imp id fun h => ?_⟩
        by_cases hlt : e.on < A.size
        · rw [bFold_getD l _ _ (by omega), bPush_getD A x _ hlt]; exact h
        · simp only [Array.getD_eq_getD_getElem?] at h
          rw [Array.getElem?_eq_none (by omega)] at h
          simp at h
    | succ k =>
      have e1 : A.size + (k + 1) = (bPush A x).size + k := by simp [bPush]; omega
      rw [e1] at hb
      exact ih _ k o i (by simpa using h) hb
theorem before_bit {j i : Nat} {o : Oper} (hj : ops[j]? = some o) (h : ((Region.before ops).getD j 0).testBit i = true) : ∃ e ∈ o.after, Region.binds .any e = true ∧ (e.on = i ∨ ((Region.before ops).getD e.on 0).testBit i = true) := by
  have e : Region.before ops = ops.toList.foldl bPush #[] := by
    unfold Region.before
    rw [← Array.foldl_toList]
    rfl
  rw [e] at h ⊢
  exact bFold_bit _ #[] j o i (by simpa using hj) (by simpa using h)

def Closed (ops : Array Oper) (listed : Array Bool) : Prop := ∀ (j : Nat) (o : Oper), ops[j]? = some o → listed.getD j false = true → ∀ e ∈ o.after, Region.binds .any e = true → listed.getD e.on false = true
theorem before_listed {listed : Array Bool} (hc : Closed ops listed) (hlt : ∀ (j : Nat) (o : Oper), ops[j]? = some o → ∀ e ∈ o.after, Region.binds .any e = true → e.on < j) : ∀ (j : Nat) (o : Oper), ops[j]? = some o → (∀ e ∈ o.after, Region.binds .any e = true → listed.getD e.on false = true) → ∀ i, ((Region.before ops).getD j 0).testBit i = true → listed.getD i false = true := by
  intro j
  induction j using Nat.strongRecOn with
  | ind j ih =>
    intro o ho hd i hb
    obtain ⟨e, he, hbe, h⟩ := before_bit ho hb
    rcases h with rfl | h
    · exact hd e he hbe
    · have hl := hlt j o ho e he hbe
      have hsz : j < ops.size := (Array.getElem?_eq_some_iff.1 ho).1
      have ho' : ops[e.on]? = some ops[e.on] := Array.getElem?_eq_getElem (by omega)
      exact ih e.on hl _ ho' (hc _ _ ho' (hd e he hbe)) i h
def restOf (ops : Array Oper) (listed : Array Bool) : List Nat := (List.range ops.size).filter fun i => !listed.getD i true
def opsAt (ops : Array Oper) (l : List Nat) : List Oper := l.filterMap (ops[·]?)
theorem rest_set {listed : Array Bool} {i : Nat} {l1 l2 : List Nat} (h : restOf ops listed = l1 ++ i :: l2) : restOf ops (listed.setIfInBounds i true) = l1 ++ l2 ∧ ∀ k ∈ l1, k < i := by
  have hp : (restOf ops listed).Pairwise (· < ·) := List.Pairwise.filter _ List.pairwise_lt_range
  rw [h, List.pairwise_append] at hp
  obtain ⟨p1, p2, p3⟩ := hp
  rw [List.pairwise_cons] at p2
  refine ⟨?_, fun k hk => p3 k hk i (by simp)⟩
  have e : restOf ops (listed.setIfInBounds i true) = (restOf ops listed).filter (fun k => k != i) := by
    unfold restOf
    rw [List.filter_filter]
    refine List.filter_congr fun k hk => ?_
    by_cases hki : k = i
    · subst hki
      simp only [bne_self_eq_false, Bool.false_and, Bool.not_eq_false']
      by_cases hlt : k < listed.size
      · simp [Array.getD_eq_getD_getElem?, hlt]
      · rw [Array.getD_eq_getD_getElem?, Array.getElem?_eq_none (by simp; omega)]; rfl
    · rw [getD_set_ne true (fun e => hki e.symm)]
      simp [hki]
  rw [e, h, List.filter_append, List.filter_cons]
  have f1 : l1.filter (fun k => k != i) = l1 := List.filter_eq_self.2 fun k hk => by
    have := p3 k hk i (by simp)
    simp; omega
  have f2 : l2.filter (fun k => k != i) = l2 := List.filter_eq_self.2 fun k hk => by
    have := p2.1 k hk
    simp; omega
  simp [f1, f2]
/-! ### Equal values -/
mutual
theorem same_eq : ∀ v v' : AVal, v.same v' = true → v = v'
  | .int k n, v', h => by
    cases v' <;> simp [AVal.same] at h
    obtain ⟨rfl, rfl⟩ := h; rfl
  | .bool b, v', h => by
    cases v' <;> simp [AVal.same] at h
    subst h; rfl
  | .str s, v', h => by
    cases v' <;> simp [AVal.same] at h
    rename_i s'
    obtain ⟨⟨l⟩⟩ := s; obtain ⟨⟨l'⟩⟩ := s'
    have : l = l' := by simpa using h
    subst this; rfl
  | .agg l, v', h => by
    cases v' <;> simp [AVal.same] at h
    rw [sames_eq _ _ h]
  | .lst l, v', h => by
    cases v' <;> simp [AVal.same] at h
    rw [sames_eq _ _ h]
  | .tup l, v', h => by
    cases v' <;> simp [AVal.same] at h
    rw [sames_eq _ _ h]
  | .ptr i o, v', h => by
    cases v' <;> simp [AVal.same] at h
    obtain ⟨rfl, rfl⟩ := h; rfl
  | .pel e o, v', h => by
    cases v' <;> simp [AVal.same] at h
    rw [same_eq _ _ h.1, h.2]
  | .map i, v', h => by
    cases v' <;> simp [AVal.same] at h
    subst h; rfl
  | .sl a b c d e, v', h => by
    cases v' <;> simp [AVal.same] at h
    obtain ⟨⟨⟨⟨rfl, rfl⟩, rfl⟩, rfl⟩, rfl⟩ := h; rfl
  | .clo f l m, v', h => by
    cases v' <;> simp [AVal.same] at h
    rw [h.1.1, sames_eq _ _ h.1.2, sames_eq _ _ h.2]
  | .nilp, v', h => by cases v' <;> simp [AVal.same] at h ⊢
  | .nilf, v', h => by cases v' <;> simp [AVal.same] at h ⊢
  | .nilm, v', h => by cases v' <;> simp [AVal.same] at h ⊢
  | .nils, v', h => by cases v' <;> simp [AVal.same] at h ⊢
  | .bad, v', h => by cases v' <;> simp [AVal.same] at h ⊢
theorem sames_eq : ∀ l l' : List AVal, sames l l' = true → l = l'
  | [], l', h => by cases l' <;> simp [sames] at h ⊢
  | v :: r, l', h => by
    cases l' <;> simp [sames] at h
    rw [same_eq _ _ h.1, sames_eq _ _ h.2]
end
theorem cellsSame_eq : ∀ l l' : List Cell, cellsSame l l' = true → l = l'
  | [], l', h => by cases l' <;> simp [cellsSame] at h ⊢
  | (v, f) :: r, l', h => by
    cases l' with
    | nil => simp [cellsSame] at h
    | cons c r' =>
      obtain ⟨v', f'⟩ := c
      simp [cellsSame] at h
      rw [same_eq _ _ h.1.1, h.1.2, cellsSame_eq _ _ h.2]
theorem pairsSame_eq : ∀ l l' : List (AVal × AVal), pairsSame l l' = true → l = l'
  | [], l', h => by cases l' <;> simp [pairsSame] at h ⊢
  | (v, u) :: r, l', h => by
    cases l' with
    | nil => simp [pairsSame] at h
    | cons c r' =>
      obtain ⟨v', u'⟩ := c
      simp [pairsSame] at h
      rw [same_eq _ _ h.1.1, same_eq _ _ h.1.2, pairsSame_eq _ _ h.2]
theorem blkSame_eq {a b : Option ABlk} (h : blkSame a b = true) : a = b := by
  unfold blkSame at h
  split at h
  · rw [cellsSame_eq _ _ h]
  · rw [pairsSame_eq _ _ h]
  · rfl
  · cases h
theorem stayB_spec {h h' : Heap} {f : Option Nat} (hs : stayB h h' f = true) : Stay h h' f := by
  intro id e
  subst e
  exact blkSame_eq hs
/-! ### Orders -/
theorem eff_heapy (hk : Kds kd call) {o : Oper} (h : heapy kd.vl ro.mu o = false) : effectful ro.mu kd.pure ops o = false := by
  obtain ⟨dst, op, type, pos, after, guard⟩ := o
  cases op <;> first
    | rfl
    | (cases h; done)
    | exact h
    | skip
  rename_i c
  obtain ⟨callee, args, ts⟩ := c
  cases callee with
  | invoke a b => cases h
  | builtin b => exact h
  | value f =>
    cases f with
    | func g =>
      have h1 : (!kd.vl g) = false := h
      have h2 : kd.vl g = true := by simpa using h1
      show (!kd.pure g) = false
      rw [hk.sub g h2]; rfl
    | _ => cases h
/-- A run in which what the readers read stays where it must. -/
def Inv (P : Program) (ft : FuncId → Bool) (call : CallF) (ops : Array Oper) (ro : Md) (φ : Nat → Option Nat) (Qp : Nat → Nat → Prop) : List Nat → St → St → Prop
  | [], s, s' => s = s'
  | j :: r, s, s' => ∃ o s1, ops[j]? = some o ∧ astep P call ops ro o s = some s1 ∧ (rdr ft ro.mu ops o = true → footAt o s = φ j) ∧
      (∀ k ok, ops[k]? = some ok → rdr ft ro.mu ops ok = true → (Qp k j ∨ Qp j k) → Stay s.hp s1.hp (φ k)) ∧ Inv P ft call ops ro φ Qp r s1 s'
variable {φ : Nat → Option Nat} {Qp : Nat → Nat → Prop}
theorem Inv.swap (hk : Kds kd call) {a b : Nat} {r : List Nat} {s s' : St} (hab : ∀ oa ob, ops[a]? = some oa → ops[b]? = some ob → indep kd ro.mu ops oa ob = true ∨ (Qp a b ∧ dynp kd ro.mu ops oa ob = true)) (h : Inv P kd.ft call ops ro φ Qp (a :: b :: r) s s') : Inv P kd.ft call ops ro φ Qp (b :: a :: r) s s' := by
  obtain ⟨oa, s1, ha, h1, fa, ca, ob, s2, hb, h2, fb, cb, hr⟩ := h
  have hsl : slotsOk ro.mu ops oa ob = true := by
    rcases hab oa ob ha hb with h | ⟨_, h⟩
    · simp only [indep, Bool.and_eq_true] at h; exact h.1.1
    · simp only [dynp, Bool.and_eq_true] at h; exact h.1
  have hne : effectful ro.mu kd.pure ops oa = false ∨ effectful ro.mu kd.pure ops ob = false := by
    rcases hab oa ob ha hb with h | ⟨_, h⟩
    · simp only [indep, Bool.and_eq_true, Bool.not_eq_true'] at h
      cases hy : heapy kd.vl ro.mu ob with
      | false => exact .inr (eff_heapy hk hy)
      | true =>
        have := h.1.2
        rw [hy, Bool.and_true] at this
        exact .inl this
    · simp only [dynp, Bool.and_eq_true, Bool.or_eq_true] at h
      rcases h.2 with h | h
      · exact .inl (rdr_still hk h.1)
      · exact .inr (rdr_still hk h.2)
  have hm : May kd ro ops oa ob s s1 s2 := by
    rcases hab oa ob ha hb with h | ⟨hq, h⟩
    · left
      simp only [indep, Bool.and_eq_true] at h ⊢
      exact ⟨h.1.2, h.2⟩
    · simp only [dynp, Bool.and_eq_true, Bool.or_eq_true] at h
      rcases h.2 with h | h
      · exact .inr (.inl ⟨h.1, by rw [fa h.1]; exact cb a oa ha h.1 (.inl hq)⟩)
      · refine .inr (.inr ⟨h.2, ?_⟩)
        rw [fb h.2]
        intro id e
        exact (ca b ob hb h.2 (.inr hq) id e).symm
  obtain ⟨s1', g1, g2, e1, e2⟩ := M.swap hk hsl h1 h2 hm
  refine ⟨ob, s1', hb, g1, fun hr => by rw [← e1]; exact fb hr, fun k ok hok hrd hq => ?_, oa, s2, ha, g2, fun hr => by rw [e2]; exact fa hr, fun k ok hok hrd hq => ?_, hr⟩
  · rcases hne with hn | hn
    · have x1 := (astep_still hk hn h1).2
      have x2 := (astep_still hk hn g2).2
      have := cb k ok hok hrd hq
      rw [x1, x2] at this
      exact this
    · have x2 := (astep_still hk hn g1).2
      rw [x2]
      exact fun id e => rfl
  · rcases hne with hn | hn
    · have x2 := (astep_still hk hn g2).2
      rw [x2]
      exact fun id e => rfl
    · have x1 := (astep_still hk hn h2).2
      have x2 := (astep_still hk hn g1).2
      have := ca k ok hok hrd hq
      rw [x2, x1]
      exact this
theorem Inv.bubble (hk : Kds kd call) {i : Nat} : ∀ (l r : List Nat) {s s' : St}, (∀ a ∈ l, ∀ oa ob, ops[a]? = some oa → ops[i]? = some ob → indep kd ro.mu ops oa ob = true ∨ (Qp a i ∧ dynp kd ro.mu ops oa ob = true)) → Inv P kd.ft call ops ro φ Qp (l ++ i :: r) s s' → Inv P kd.ft call ops ro φ Qp (i :: (l ++ r)) s s' := by
  intro l
  induction l with
  | nil => intro r s s' _ h; exact h
  | cons a l ih =>
    intro r s s' hi h
    obtain ⟨oa, s1, ha, h1, fa, ca, hr⟩ := h
    have h2 := ih r (fun x hx => hi x (.tail _ hx)) hr
    exact Inv.swap hk (hi a (.head _)) ⟨oa, s1, ha, h1, fa, ca, h2⟩
theorem topo_ready {listed : Array Bool} (hsz : listed.size = ops.size) : ∀ (l seen : List Nat), topoGo ops seen l = true → (∀ i ∈ seen, listed.getD i false = true) → (∃ k ∈ l, listed.getD k true = false) → Region.ready .gc ops listed ≠ [] := by
  intro l
  induction l with
  | nil => rintro seen _ _ ⟨k, hk, _⟩; cases hk
  | cons i r ih =>
    rintro seen h hs ⟨k, hk, hu⟩
    rw [topoGo, Bool.and_eq_true] at h
    obtain ⟨h1, h2⟩ := h
    cases ho : ops[i]? with
    | none => rw [ho] at h1; cases h1
    | some o =>
      rw [ho] at h1
      have hi : i < listed.size := by rw [hsz]; exact (Array.getElem?_eq_some_iff.1 ho).1
      cases hl : listed.getD i true with
      | false =>
        have : i ∈ Region.ready .gc ops listed := by
          rw [mem_ready]
          refine ⟨hl, o, ho, fun e he hb => ?_⟩
          have := (Array.all_eq_true_iff_forall_mem.1 h1) e he
          rw [hb] at this
          exact hs _ (by simpa using this)
        intro h0
        rw [h0] at this
        cases this
      | true =>
        refine ih (i :: seen) h2 (fun x hx => ?_) ⟨k, ?_, hu⟩
        · rcases List.mem_cons.1 hx with rfl | hx
          · simp [Array.getD_eq_getD_getElem?, hi] at hl ⊢; exact hl
          · exact hs x hx
        · rcases List.mem_cons.1 hk with rfl | hk
          · rw [hl] at hu; cases hu
          · exact hk
/-- Where the edges that bind point back, something is ready. -/
theorem back_ready {m : Region.Mode} (hlt : ∀ (j : Nat) (o : Oper), ops[j]? = some o → ∀ e ∈ o.after, Region.binds m e = true → e.on < j) {listed : Array Bool} (hsz : listed.size = ops.size) (h : restOf ops listed ≠ []) : Region.ready m ops listed ≠ [] := by
  have mem_rest : ∀ k, k ∈ restOf ops listed ↔ k < ops.size ∧ listed.getD k true = false := by
    intro k
    unfold restOf
    rw [List.mem_filter, List.mem_range]
    simp
  cases hr : restOf ops listed with
  | nil => exact absurd hr h
  | cons x xs =>
    obtain ⟨hx1, hx2⟩ := (mem_rest x).1 (by rw [hr]; simp)
    have : x ∈ Region.ready m ops listed := by
      rw [mem_ready]
      refine ⟨hx2, ops[x], Array.getElem?_eq_getElem hx1, fun e he hb => ?_⟩
      have hl := hlt x _ (Array.getElem?_eq_getElem hx1) e he hb
      cases hh : listed.getD e.on false with
      | true => rfl
      | false =>
        exfalso
        have hsm : e.on < listed.size := by omega
        have hm : e.on ∈ restOf ops listed := (mem_rest _).2 ⟨by omega, by
          simp [Array.getD_eq_getD_getElem?, hsm] at hh ⊢; exact hh⟩
        have hp : (restOf ops listed).Pairwise (· < ·) := List.Pairwise.filter _ List.pairwise_lt_range
        rw [hr] at hm hp
        rw [List.pairwise_cons] at hp
        rcases List.mem_cons.1 hm with h1 | h1
        · omega
        · have := hp.1 _ h1; omega
    intro h0
    rw [h0] at this
    cases this
theorem go_any (hk : Kds kd call) {m : Region.Mode} {X : Nat → Nat → Prop} (kk : Nat) (hlt : ∀ (j : Nat) (o : Oper), ops[j]? = some o → ∀ e ∈ o.after, Region.binds .any e = true → e.on < j)
    (hin : ∀ (i j : Nat) (a b : Oper), i < j → ops[i]? = some a → ops[j]? = some b → ((Region.before ops).getD j 0).testBit i = true ∨ (indep kd ro.mu ops a b = true ∨ (Qp i j ∧ dynp kd ro.mu ops a b = true)) ∨ X i j)
    (hbind : ∀ e : Edge, Region.binds .any e = true → Region.binds m e = true)
    (hprog : ∀ listed : Array Bool, listed.size = ops.size → restOf ops listed ≠ [] → Region.ready m ops listed ≠ []) :
    ∀ (fuel t : Nat) (listed : Array Bool) (s s' : St), listed.size = ops.size → (restOf ops listed).length ≤ fuel → Closed ops listed → (∀ i j, X i j → listed.getD i false = true) → Inv P kd.ft call ops ro φ Qp (restOf ops listed) s s' →
      ∃ os : List Oper, (Region.linearise.go m ops fuel t listed []).map (fun i => ops[i]?) = os.map some ∧ DRun P call ops ro kk os s s' := by
  intro fuel
  induction fuel with
  | zero =>
    intro t listed s s' hsz hf hc hX h
    have : restOf ops listed = [] := List.eq_nil_of_length_eq_zero (by omega)
    rw [this] at h
    cases (h : s = s')
    exact ⟨[], by simp [Region.linearise.go], .nil s⟩
  | succ fuel ih =>
    intro t listed s s' hsz hf hc hX h
    simp only [Region.linearise.go]
    change ∃ os : List Oper, (match (Region.ready m ops listed)[t % (Region.ready m ops listed).length]? with
      | some i => Region.linearise.go m ops fuel (t / (Region.ready m ops listed).length) (listed.setIfInBounds i true) [i]
      | none => [].reverse).map (fun i => ops[i]?) = os.map some ∧ DRun P call ops ro kk os s s'
    have mem_rest : ∀ k, k ∈ restOf ops listed ↔ k < ops.size ∧ listed.getD k true = false := by
      intro k
      unfold restOf
      rw [List.mem_filter, List.mem_range]
      simp
    cases hi : (Region.ready m ops listed)[t % (Region.ready m ops listed).length]? with
    | none =>
      have hnil : Region.ready m ops listed = [] := by
        cases hr : Region.ready m ops listed with
        | nil => rfl
        | cons x xs =>
          rw [hr] at hi
          have hlt : t % (x :: xs).length < (x :: xs).length := Nat.mod_lt _ (by simp)
          simp at hi
          simp at hlt
          omega
      have : restOf ops listed = [] := by
        by_cases hr : restOf ops listed = []
        · exact hr
        · exact absurd hnil (hprog listed hsz hr)
      rw [this] at h
      cases (h : s = s')
      exact ⟨[], by simp, .nil s⟩
    | some i =>
      simp only []
      have hri := List.mem_of_getElem? hi
      rw [mem_ready] at hri
      obtain ⟨hli, o, ho, haf⟩ := hri
      have hio : i < ops.size := (Array.getElem?_eq_some_iff.1 ho).1
      obtain ⟨l1, l2, hsp⟩ := List.append_of_mem ((mem_rest i).2 ⟨hio, hli⟩)
      obtain ⟨hset, hlt1⟩ := rest_set hsp
      have haf' : ∀ e ∈ o.after, Region.binds .any e = true → listed.getD e.on false = true := fun e he hb => haf e he (hbind e hb)
      have hb := before_listed hc hlt i o ho haf'
      rw [hsp] at h
      have h2 := Inv.bubble hk l1 l2 (fun k hk' oa ob hka hob => by
        rw [ho] at hob; cases hob
        have no : listed.getD k false = true → False := fun h1 => by
          have h2 := ((mem_rest k).1 (by rw [hsp]; simp [hk'])).2
          have hks : k < listed.size := by
            have := (Array.getElem?_eq_some_iff.1 hka).1
            omega
          simp [Array.getD_eq_getD_getElem?, hks] at h1 h2
          rw [h1] at h2; cases h2
        rcases hin k i oa o (hlt1 k hk') hka ho with hh | hh | hh
        · exact (no (hb k hh)).elim
        · exact hh
        · exact (no (hX k i hh)).elim) h
      obtain ⟨o', s1, ho', h3, _, _, h4⟩ := h2
      rw [ho] at ho'; cases ho'
      have hc' : Closed ops (listed.setIfInBounds i true) := by
        intro j o' hj hjl e he hb
        by_cases hij : i = j
        · subst hij
          rw [ho] at hj; cases hj
          exact getD_set_true (haf' e he hb)
        · rw [getD_set_ne false hij] at hjl
          exact getD_set_true (hc j o' hj hjl e he hb)
      have hlen : (restOf ops (listed.setIfInBounds i true)).length ≤ fuel := by
        rw [hset]
        rw [hsp] at hf
        simp at hf ⊢
        omega
      obtain ⟨os, ho1, ho2⟩ := ih (t / (Region.ready m ops listed).length) _ s1 s' (by simpa using hsz) hlen hc' (fun a b h => getD_set_true (hX a b h)) (by rw [hset]; exact h4)
      refine ⟨o :: os, ?_, ?_⟩
      · rw [linearise_go_acc, List.reverse_singleton, List.singleton_append, List.map_cons, ho1, ho]
        rfl
      · exact .op h3 ho2
/-! ### Two new variables side by side -/
theorem ofCell_ids (n : Nat) (c : Value) : (ofCell c).idsLt n = true := by
  unfold ofCell
  split <;> simp [AVal.idsLt, idsLts]
def zsT (P : Program) (t : TypeId) : Option (List Cell) := match (P.info? t).bind (·.zero) with
  | some z => if (z.cells.toList.map ofCell).all AVal.one then some (z.cells.toList.map fun c => (ofCell c, isNil c)) else none
  | none => none
theorem zsT_ids {t : TypeId} {zs : List Cell} (h : zsT P t = some zs) (n : Nat) : ∀ c ∈ zs, c.1.idsLt n = true := by
  unfold zsT at h
  split at h
  · split at h
    · cases h
      intro c hc
      obtain ⟨x, _, rfl⟩ := List.mem_map.1 hc
      exact ofCell_ids n x
    · cases h
  · cases h
theorem allocs_spec {o : Oper} {t : TypeId} {d : Tmp} (h : allocs o = some (t, d)) : o.guard = none ∧ o.op = .alloc t ∧ o.dst = some d := by
  unfold allocs at h
  split at h
  · cases h; rename_i a b c; exact ⟨a, b, c⟩
  · cases h
theorem astep_alloc {o : Oper} {t : TypeId} {d : Tmp} (h : allocs o = some (t, d)) (s : St) : astep P call ops ro o s = (zsT P t).map fun zs => ⟨s.tm.set d (.ptr s.nx 0, false), s.nx + 1, (s.nx, .cells zs) :: s.hp⟩ := by
  obtain ⟨h1, h2, h3⟩ := allocs_spec h
  unfold astep awanted
  rw [h1]
  simp only
  unfold aeff
  rw [h2]
  simp only
  unfold aeff0
  rw [h2]
  simp only
  unfold zsT
  cases (P.info? t).bind (·.zero) with
  | none => rfl
  | some z =>
    simp only
    split
    · rw [h3]; rfl
    · rfl
theorem tame_eff {mu : List TypeId} {o : Oper} (h : tame mu ops o = true) (pure : FuncId → Bool) : effectful mu pure ops o = false := by
  unfold tame at h
  rw [Bool.and_eq_true] at h
  have h2 := h.2
  unfold effectful
  split at h2
  · rename_i e; rw [e]
  · rename_i e; rw [e]
    simp only [Bool.not_eq_true'] at h2
    simp only [h2, Bool.false_and]
  · rename_i e; rw [e]
  · rename_i e; rw [e]
  · rename_i e; rw [e]
  · rename_i e; rw [e]
    split at h2
    · rename_i e2
      simp only [e2]
      simpa using h2
    · cases h2
  · cases h2
theorem ev_ids {n : Nat} {tm : List Cell} {hp : Heap} (h : WF n tm hp) (t : Tmp) : (ev tm (.tmp t)).1.idsLt n = true := by
  show ((tm[t]?).getD (.bad, false)).1.idsLt n = true
  cases ht : tm[t]? with
  | none => simp [AVal.idsLt]
  | some c => exact h.1 t c ht
theorem aload_ids {n : Nat} {tm : List Cell} {hp : Heap} (h : WF n tm hp) {d : Option Tmp} {t : TypeId} {a : AVal} (ha : a.idsLt n = true) {nx : Nat} {q : Out} (hq : aload P ops ro d t a nx hp = some q) : q.v.idsLt n = true := by
  unfold aload at hq
  split at hq
  · split at hq
    · rename_i cs hg
      have hc := (h.2 _ _ hg).2
      split at hq
      · split at hq
        · cases hq
          show AVal.idsLt n (.agg _) = true
          simp only [AVal.idsLt]
          refine idsLts_all.2 fun v hv => ?_
          obtain ⟨c, hc', rfl⟩ := List.mem_map.1 hv
          exact hc c (List.mem_of_mem_drop (List.mem_of_mem_take hc'))
        · cases hq
      · split at hq
        · rename_i v hv
          have hi : v.idsLt n = true := hc (v, true) (List.mem_of_getElem? hv)
          repeat' split at hq
          all_goals (cases hq; exact hi)
        · rename_i v hv
          cases hq
          exact hc (v, false) (List.mem_of_getElem? hv)
        · cases hq
      · cases hq
    · cases hq
  · rename_i e off
    obtain ⟨v, hv, rfl⟩ := Option.map_eq_some_iff.1 hq
    simp only [AVal.idsLt] at ha
    show v.idsLt n = true
    unfold pick at hv
    split at hv
    · split at hv
      · cases hv
        simp only [AVal.idsLt]
        exact idsLts_all.2 fun v hv => ids_flat ha v (List.mem_of_mem_drop (List.mem_of_mem_take hv))
      · cases hv
    · exact ids_flat ha v (List.mem_of_getElem? hv)
    · cases hv
  · cases hq
theorem aint_ids {op : BinOp} {k : IntKind} {x y : Int} {v : AVal} (h : aint op k x y = some v) (n : Nat) : v.idsLt n = true := by
  unfold aint at h
  split at h <;> (try split at h) <;> cases h <;> simp [AVal.idsLt]
theorem astr_ids {op : BinOp} {x y : ByteArray} {v : AVal} (h : astr op x y = some v) (n : Nat) : v.idsLt n = true := by
  unfold astr at h
  split at h <;> (try split at h) <;> cases h <;> simp [AVal.idsLt]
theorem abinZ_ids0 {t : TypeId} {op : BinOp} {y : Operand} {a b v : AVal} (hT : ∀ {v}, abinT P t op a b = some v → ∀ n, v.idsLt n = true) (h : abinZ P t op y a b = some v) (n : Nat) : v.idsLt n = true := by
  unfold abinZ at h
  split at h
  · unfold nilCmp at h
    split at h
    · split at h <;> cases h <;> simp [AVal.idsLt]
    · cases h
  · exact hT h n
theorem abinT_ids {t : TypeId} {op : BinOp} {x y v : AVal} (h : abinT P t op x y = some v) (n : Nat) : v.idsLt n = true := by
  unfold abinT at h
  split at h
  · simp only [abin] at h
    split at h
    · exact aint_ids h n
    · cases h
  · exact astr_ids h n
  · split at h
    · obtain ⟨b, _, rfl⟩ := Option.map_eq_some_iff.1 h; simp [AVal.idsLt]
    · obtain ⟨b, _, rfl⟩ := Option.map_eq_some_iff.1 h; simp [AVal.idsLt]
    · cases h
theorem ashift_ids {n o : Nat} {a v : AVal} (ha : a.idsLt n = true) (h : ashift o a = some v) : v.idsLt n = true := by
  unfold ashift at h
  split at h
  · cases h; simpa [AVal.idsLt] using ha
  · cases h; simpa [AVal.idsLt] using ha
  · cases h
theorem amove_ids {take : Bool} {x : Operand} {c : Cell} {nx : Nat} {hp : Heap} {q : Out} {n : Nat} (hc : c.1.idsLt n = true) (h : amove take x c nx hp = some q) : q.v.idsLt n = true := by
  obtain ⟨v, b⟩ := c
  cases x <;> cases b <;> simp only [amove] at h <;> (try split at h) <;> cases h <;> exact hc
theorem tame_ids {mu : List TypeId} {o : Oper} (h : tame mu ops o = true) {tm : List Cell} {nx : Nat} {hp : Heap} {n : Nat} {q : Out} (hwf : WF n tm hp) (hq : aeff P call ops ro o (ev tm) nx hp = some q) : q.v.idsLt n = true := by
  unfold tame at h
  rw [Bool.and_eq_true] at h
  have h2 := h.2
  unfold aeff at hq
  split at h2
  · rename_i t e
    rw [e] at hq
    simp only at hq
    unfold aeff0 at hq
    rw [e] at hq
    simp only at hq
    split at hq
    · unfold acut at hq; injection hq with hq; subst hq; exact ev_ids hwf t
    · exact amove_ids (ev_ids hwf t) hq
  · rename_i ty t e
    rw [e] at hq
    simp only at hq
    unfold aeff0 at hq
    rw [e] at hq
    exact aload_ids hwf (ev_ids hwf t) hq
  · rename_i ty t f e
    rw [e] at hq
    simp only at hq
    unfold aeff0 at hq
    rw [e] at hq
    obtain ⟨v, hv, rfl⟩ := Option.map_eq_some_iff.1 hq
    show v.idsLt n = true
    unfold afield at hv
    repeat' split at hv
    all_goals first | (cases hv; done) | exact ashift_ids (ev_ids hwf t) hv
  · rename_i ty t f e
    rw [e] at hq
    simp only at hq
    unfold aeff0 at hq
    rw [e] at hq
    obtain ⟨v, hv, rfl⟩ := Option.map_eq_some_iff.1 hq
    show v.idsLt n = true
    have ht := ev_ids hwf t
    unfold aindexa at hv
    split at hv
    · rename_i xs _ _ hx _
      rw [hx] at ht
      simp only [AVal.idsLt] at ht
      repeat' split at hv
      all_goals first | (cases hv; done) | skip
      rename_i el hel _
      cases hv
      simp only [AVal.idsLt]
      exact idsLts_all.1 ht _ (List.mem_of_getElem? (by assumption))
    · rename_i hx _
      rw [hx] at ht
      repeat' split at hv
      all_goals first | (cases hv; done) | skip
      cases hv
      simpa [AVal.idsLt] using ht
    · cases hv
  · rename_i e
    rw [e] at hq
    simp only at hq
    unfold aeff0 at hq
    rw [e] at hq
    obtain ⟨v, hv, rfl⟩ := Option.map_eq_some_iff.1 hq
    exact abinZ_ids0 (fun h => abinT_ids h) hv n
  · rename_i c e
    rw [e] at hq
    simp only at hq
    split at h2
    · rename_i e2
      unfold acall at hq
      rw [e2] at hq
      simp only at hq
      unfold abuiltin at hq
      split at hq
      · split at hq
        · obtain ⟨v, hv, rfl⟩ := Option.map_eq_some_iff.1 hq
          show v.idsLt n = true
          unfold alen at hv
          repeat' split at hv
          all_goals first | (cases hv; done) | (cases hv; simp [AVal.idsLt])
        · cases hq
      · rename_i hh _; cases hh
      · rename_i hh _; cases hh
      · rename_i hh _; cases hh
      · cases hq
    · cases h2
  · cases h2
theorem tame_wf (hk : Kds kd call) {mu : List TypeId} {o : Oper} (h : tame mu ops o = true) (he : ∀ pure, effectful ro.mu pure ops o = false) {s s1 : St} {n : Nat} (hwf : WF n s.tm s.hp) (h1 : astep P call ops ro o s = some s1) : s1.nx = s.nx ∧ s1.hp = s.hp ∧ WF n s1.tm s1.hp := by
  obtain ⟨e1, e2⟩ := astep_still hk (he _) h1
  refine ⟨e1, e2, fun t c hc => ?_, by rw [e2]; exact hwf.2⟩
  have hg : o.guard = none := by
    unfold tame at h
    rw [Bool.and_eq_true] at h
    simpa using h.1
  unfold astep awanted at h1
  rw [hg] at h1
  simp only at h1
  obtain ⟨q, hq, rfl⟩ := Option.map_eq_some_iff.1 h1
  have hv := tame_ids h hwf hq
  rw [put_get] at hc
  split at hc
  · obtain ⟨_, _, rfl⟩ := Option.map_eq_some_iff.1 hc
    exact hv
  · split at hc
    · obtain ⟨c', hc', rfl⟩ := Option.map_eq_some_iff.1 hc
      exact hwf.1 t c' hc'
    · exact hwf.1 t c hc
theorem foot_lt {ft : FuncId → Bool} {mu : List TypeId} {o : Oper} (hr : rdr ft mu ops o = true) (h : tame mu ops o = true) {n : Nat} {s : St} (hwf : WF n s.tm s.hp) {id : Nat} (hf : footAt o s = some id) : id < n := by
  unfold tame at h
  rw [Bool.and_eq_true] at h
  have h2 := h.2
  unfold footAt at hf
  split at h2
  all_goals (try (rename_i e; rw [e] at hf; cases hf; done))
  · rename_i ty t e
    rw [e] at hf
    simp only at hf
    have := ev_ids hwf t
    generalize (ev s.tm (.tmp t)).1 = v at hf this
    unfold footOf at hf
    split at hf
    · cases hf; simpa [AVal.idsLt] using this
    · cases hf; simpa [AVal.idsLt] using this
    · cases hf
  · rename_i c e
    unfold rdr at hr
    rw [e] at hr
    simp only at hr h2
    unfold ftCall at hr
    split at hr
    · rename_i e1 _; rw [e1] at h2; cases h2
    · cases hr
  · cases h2
/-- A tame operation and a new variable. -/
theorem tame_alloc (hk : Kds kd call) {o b : Oper} {t : TypeId} {d : Tmp} (ho : tame ro.mu ops o = true) (hb : allocs b = some (t, d)) (ha : apartD (some d) (o.dst.toList ++ namesOf ops o) = true) {s s1 sB : St} (hwf : WF s.nx s.tm s.hp) (h1 : astep P call ops ro o s = some s1) (h2 : astep P call ops ro b s = some sB) :
    ∃ s1B, astep P call ops ro b s1 = some s1B ∧ astep P call ops ro o sB = some s1B := by
  obtain ⟨b1, b2, b3⟩ := allocs_spec hb
  rw [astep_alloc hb] at h2
  obtain ⟨zs, hz, rfl⟩ := Option.map_eq_some_iff.1 h2
  obtain ⟨e1, e2, _⟩ := tame_wf hk ho (tame_eff ho) hwf h1
  have h3 : astep P call ops ro b s1 = some ⟨s1.tm.set d (.ptr s1.nx 0, false), s1.nx + 1, (s1.nx, .cells zs) :: s1.hp⟩ := by rw [astep_alloc hb, hz]; rfl
  refine ⟨_, h3, ?_⟩
  have hnb : namesOf ops b = [] := by
    unfold namesOf
    rw [b1, b2]
    rfl
  have hsl : slotsOk ro.mu ops o b = true := by
    unfold slotsOk
    rw [b3, hnb]
    have hsb : srcOf ro.mu ops b = none := by unfold srcOf; rw [b2]
    rw [hsb]
    simp only [Bool.and_eq_true]
    refine ⟨⟨?_, ha⟩, ?_⟩
    · have := apartD_spec ha d rfl
      cases hd : o.dst with
      | none => rfl
      | some x =>
        rw [hd] at this
        have hne : x ≠ d := fun e => this (by simp [e])
        simp [apartD, hne]
    · cases srcOf ro.mu ops o <;> rfl
  have hm : May kd ro ops o b s s1 ⟨s1.tm.set d (.ptr s1.nx 0, false), s1.nx + 1, (s1.nx, .cells zs) :: s1.hp⟩ := by
    have hef := tame_eff ho (ops := ops) kd.pure
    cases hr : rdr kd.ft ro.mu ops o with
    | true =>
      refine .inr (.inl ⟨hr, fun id hid => ?_⟩)
      have := foot_lt hr ho hwf hid
      show hget s1.hp id = hget ((s1.nx, _) :: s1.hp) id
      simp only [hget]
      rw [if_neg (by omega)]
    | false =>
      left
      have hh : heapy kd.vl ro.mu o = false := by
        unfold tame at ho
        rw [Bool.and_eq_true] at ho
        have h2 := ho.2
        unfold rdr at hr
        unfold heapy
        split at h2
        · rename_i e; rw [e]
        · rename_i e
          rw [e] at hr
          simp only [Bool.not_eq_true'] at h2
          simp only [h2, Bool.false_and, Bool.not_false] at hr
          cases hr
        · rename_i e; rw [e]
        · rename_i e; rw [e]
        · rename_i e; rw [e]
        · rename_i e; rw [e]
          split at h2
          · rename_i e2
            simp only [e2]
            simpa using h2
          · cases h2
        · cases h2
      rw [hef, hh]; rfl
  obtain ⟨s1', g1, g2, _, _⟩ := M.swap hk hsl h1 h3 hm
  rw [astep_alloc hb, hz] at g1
  cases g1
  exact g2
section pair
variable {m : Region.Mode} {i0 : Nat} {oA oB : Oper} {t : TypeId} {a b : Tmp}
/-- What the region of two new variables side by side is like. -/
structure Pair (ops : Array Oper) (mu : List TypeId) (i0 : Nat) (oA oB : Oper) (t : TypeId) (a b : Tmp) : Prop where
  iA : ops[i0]? = some oA
  iB : ops[i0 + 1]? = some oB
  aA : allocs oA = some (t, a)
  aB : allocs oB = some (t, b)
  ne : a ≠ b
  early : ∀ (e : Nat) (o : Oper), e < i0 → ops[e]? = some o → tame mu ops o = true ∧ apartD (some a) (o.dst.toList ++ namesOf ops o) = true ∧ apartD (some b) (o.dst.toList ++ namesOf ops o) = true
  late : ∀ (e : Nat), e < ops.size → i0 + 1 < e → ((Region.before ops).getD e 0).testBit i0 = true
theorem mem_restOf (listed : Array Bool) (k : Nat) : k ∈ restOf ops listed ↔ k < ops.size ∧ listed.getD k true = false := by
  unfold restOf
  rw [List.mem_filter, List.mem_range]
  simp
theorem rest_listed {listed : Array Bool} (hsz : listed.size = ops.size) {k : Nat} (h : k ∈ restOf ops listed) : listed.getD k false = false := by
  obtain ⟨h1, h2⟩ := (mem_restOf listed k).1 h
  have : k < listed.size := by omega
  simp [Array.getD_eq_getD_getElem?, this] at h2 ⊢
  exact h2
theorem closed_set {listed : Array Bool} (hc : Closed ops listed) {i : Nat} {o : Oper} (ho : ops[i]? = some o) (haf' : ∀ e ∈ o.after, Region.binds .any e = true → listed.getD e.on false = true) : Closed ops (listed.setIfInBounds i true) := by
  intro j o' hj hjl e he hb
  by_cases hij : i = j
  · subst hij
    rw [ho] at hj; cases hj
    exact getD_set_true (haf' e he hb)
  · rw [getD_set_ne false hij] at hjl
    exact getD_set_true (hc j o' hj hjl e he hb)
theorem go_two (hk : Kds kd call) (hp : Pair ops ro.mu i0 oA oB t a b) (hlt : ∀ (j : Nat) (o : Oper), ops[j]? = some o → ∀ e ∈ o.after, Region.binds .any e = true → e.on < j)
    (hin : ∀ (i j : Nat) (a b : Oper), i < j → ops[i]? = some a → ops[j]? = some b → ((Region.before ops).getD j 0).testBit i = true ∨ (indep kd ro.mu ops a b = true ∨ (Qp i j ∧ dynp kd ro.mu ops a b = true)) ∨ (i = i0 ∧ j = i0 + 1))
    (hbind : ∀ e : Edge, Region.binds .any e = true → Region.binds m e = true)
    (hprog : ∀ listed : Array Bool, listed.size = ops.size → restOf ops listed ≠ [] → Region.ready m ops listed ≠ [])
    (hfree : ∀ e, e ≤ i0 → ((Region.before ops).getD i0 0).testBit e = false ∧ ((Region.before ops).getD (i0 + 1) 0).testBit e = false) :
    ∀ (fuel t' : Nat) (listed : Array Bool) (s sB s' : St) (x l2 : List Nat), listed.size = ops.size → (restOf ops listed).length ≤ fuel → Closed ops listed → listed.getD i0 false = false → WF s.nx s.tm s.hp →
      restOf ops listed = x ++ i0 :: l2 → (∀ e ∈ l2, i0 + 1 < e) → Inv P kd.ft call ops ro φ Qp (x ++ i0 :: (i0 + 1) :: l2) s s' → astep P call ops ro oB s = some sB →
      ∃ os : List Oper, (Region.linearise.go m ops fuel t' listed []).map (fun i => ops[i]?) = os.map some ∧ DRun P call ops ro s.nx os sB s' := by
  have free : ∀ e, e < i0 → ∀ o, ops[e]? = some o → (indep kd ro.mu ops o oA = true ∨ (Qp e i0 ∧ dynp kd ro.mu ops o oA = true)) ∧ (indep kd ro.mu ops o oB = true ∨ (Qp e (i0 + 1) ∧ dynp kd ro.mu ops o oB = true)) := by
    intro e he o ho
    refine ⟨?_, ?_⟩
    · rcases hin e i0 o oA he ho hp.iA with h | h | h
      · rw [(hfree e (by omega)).1] at h; cases h
      · exact h
      · omega
    · rcases hin e (i0 + 1) o oB (by omega) ho hp.iB with h | h | h
      · rw [(hfree e (by omega)).2] at h; cases h
      · exact h
      · omega
  intro fuel
  induction fuel with
  | zero =>
    intro t' listed s sB s' x l2 hsz hf _ _ _ hr
    rw [hr] at hf
    simp at hf
  | succ fuel ih =>
    intro t' listed s sB s' x l2 hsz hf hc hi0 hwf hr hl2 h hB
    simp only [Region.linearise.go]
    change ∃ os : List Oper, (match (Region.ready m ops listed)[t' % (Region.ready m ops listed).length]? with
      | some i => Region.linearise.go m ops fuel (t' / (Region.ready m ops listed).length) (listed.setIfInBounds i true) [i]
      | none => [].reverse).map (fun i => ops[i]?) = os.map some ∧ DRun P call ops ro s.nx os sB s'
    have hne : Region.ready m ops listed ≠ [] := hprog listed hsz (by rw [hr]; simp)
    cases hi : (Region.ready m ops listed)[t' % (Region.ready m ops listed).length]? with
    | none =>
      exfalso
      have hpos : 0 < (Region.ready m ops listed).length := List.length_pos_iff.2 hne
      have := Nat.mod_lt t' hpos
      rw [List.getElem?_eq_getElem this] at hi
      cases hi
    | some i =>
      simp only []
      have hri := List.mem_of_getElem? hi
      rw [mem_ready] at hri
      obtain ⟨hli, o, ho, haf⟩ := hri
      have hio : i < ops.size := (Array.getElem?_eq_some_iff.1 ho).1
      have hmem : i ∈ restOf ops listed := (mem_restOf listed i).2 ⟨hio, hli⟩
      have haf' : ∀ e ∈ o.after, Region.binds .any e = true → listed.getD e.on false = true := fun e he hb => haf e he (hbind e hb)
      have hb := before_listed hc hlt i o ho haf'
      have hc' := closed_set hc ho haf'
      have hxlt : ∀ e ∈ x, e < i0 := (rest_set hr).2
      have fin : ∀ (os : List Oper) (sN : St), astep P call ops ro o sB = some sN → (Region.linearise.go m ops fuel (t' / (Region.ready m ops listed).length) (listed.setIfInBounds i true) []).map (fun i => ops[i]?) = os.map some → DRun P call ops ro s.nx os sN s' →
          ∃ os : List Oper, (Region.linearise.go m ops fuel (t' / (Region.ready m ops listed).length) (listed.setIfInBounds i true) [i]).map (fun i => ops[i]?) = os.map some ∧ DRun P call ops ro s.nx os sB s' := by
        intro os sN g1 g2 g3
        refine ⟨o :: os, ?_, .op g1 g3⟩
        rw [linearise_go_acc, List.reverse_singleton, List.singleton_append, List.map_cons, g2, ho]
        rfl
      have hlen : (restOf ops (listed.setIfInBounds i true)).length ≤ fuel := by
        obtain ⟨l1, l3, hsp⟩ := List.append_of_mem hmem
        rw [(rest_set hsp).1]
        rw [hsp] at hf
        simp at hf ⊢
        omega
      rw [hr] at hmem
      rcases List.mem_append.1 hmem with hix | hix
      · -- an early one
        obtain ⟨x1, x2, rfl⟩ := List.append_of_mem hix
        have hi0' := hxlt i (by simp)
        rw [List.append_assoc, List.cons_append] at h hr
        have h2 := Inv.bubble hk x1 _ (fun k hk' oa ob hka hob => by
          rw [ho] at hob; cases hob
          have hki : k < i := (rest_set hr).2 k hk'
          rcases hin k i oa o hki hka ho with hh | hh | hh
          · have := hb k hh
            rw [rest_listed hsz (by rw [hr]; simp [hk'])] at this
            cases this
          · exact hh
          · omega) h
        obtain ⟨o', s1, ho', h3, _, _, h4⟩ := h2
        rw [ho] at ho'; cases ho'
        obtain ⟨q1, q2, q3⟩ := hp.early i o hi0' ho
        obtain ⟨s1B, g1, g2⟩ := tame_alloc hk q1 hp.aB q3 hwf h3 hB
        obtain ⟨w1, w2, w3⟩ := tame_wf hk q1 (tame_eff q1) hwf h3
        obtain ⟨os, ho1, ho2⟩ := ih (t' / (Region.ready m ops listed).length) (listed.setIfInBounds i true) s1 s1B s' (x1 ++ x2) l2 (by simpa using hsz) hlen hc' (by rw [getD_set_ne false (by omega)]; exact hi0) (by rw [w1]; exact w3) (by rw [(rest_set hr).1, List.append_assoc]) hl2 (by rw [List.append_assoc]; exact h4) g1
        rw [w1] at ho2
        exact fin os s1B g2 ho1 ho2
      · rcases List.mem_cons.1 hix with rfl | hix
        · -- the first of the two
          rw [hp.iA] at ho; cases ho
          have h2 := Inv.bubble hk x _ (fun k hk' oa ob hka hob => by
            rw [hp.iA] at hob; cases hob
            exact (free k (hxlt k hk') oa hka).1) h
          obtain ⟨o', sA, ho', h3, _, _, h4⟩ := h2
          rw [hp.iA] at ho'; cases ho'
          have h5 := Inv.bubble hk x _ (fun k hk' oa ob hka hob => by
            rw [hp.iB] at hob; cases hob
            exact (free k (hxlt k hk') oa hka).2) h4
          obtain ⟨o', sAB, ho', h6, _, _, h7⟩ := h5
          rw [hp.iB] at ho'; cases ho'
          rw [astep_alloc hp.aA] at h3
          obtain ⟨zs, hz, rfl⟩ := Option.map_eq_some_iff.1 h3
          rw [astep_alloc hp.aB, hz] at h6 hB
          cases h6
          cases hB
          obtain ⟨os, ho1, ho2⟩ := go_any (P := P) (X := fun a b => a = i ∧ b = i + 1) hk s.nx hlt hin hbind hprog fuel (t' / (Region.ready m ops listed).length) (listed.setIfInBounds i true) _ s' (by simpa using hsz) hlen hc' (fun p q hpq => by
            rw [hpq.1]
            have : i < listed.size := by omega
            simp [Array.getD_eq_getD_getElem?, this]) (by rw [(rest_set hr).1]; exact h7)
          refine fin os ⟨(s.tm.set b (.ptr s.nx 0, false)).set a (.ptr (s.nx + 1) 0, false), s.nx + 2, (s.nx + 1, .cells zs) :: (s.nx, .cells zs) :: s.hp⟩ (by rw [astep_alloc hp.aA, hz]; rfl) ho1 (.sw (Nat.le_refl _) ⟨a, b, zs, s.tm, s.hp, hp.ne, hwf, zsT_ids hz _, rfl, rfl⟩ ho2)
        · -- a late one
          exfalso
          have := hb i0 (hp.late i hio (hl2 i hix))
          rw [hi0] at this
          cases this
theorem go_pair (hk : Kds kd call) (hp : Pair ops ro.mu i0 oA oB t a b) (hlt : ∀ (j : Nat) (o : Oper), ops[j]? = some o → ∀ e ∈ o.after, Region.binds .any e = true → e.on < j)
    (hin : ∀ (i j : Nat) (a b : Oper), i < j → ops[i]? = some a → ops[j]? = some b → ((Region.before ops).getD j 0).testBit i = true ∨ (indep kd ro.mu ops a b = true ∨ (Qp i j ∧ dynp kd ro.mu ops a b = true)) ∨ (i = i0 ∧ j = i0 + 1))
    (hbind : ∀ e : Edge, Region.binds .any e = true → Region.binds m e = true)
    (hprog : ∀ listed : Array Bool, listed.size = ops.size → restOf ops listed ≠ [] → Region.ready m ops listed ≠ [])
    (hfree : ∀ e, e ≤ i0 → ((Region.before ops).getD i0 0).testBit e = false ∧ ((Region.before ops).getD (i0 + 1) 0).testBit e = false) :
    ∀ (fuel t' : Nat) (listed : Array Bool) (s s' : St) (x l2 : List Nat), listed.size = ops.size → (restOf ops listed).length ≤ fuel → Closed ops listed → listed.getD i0 false = false → WF s.nx s.tm s.hp →
      restOf ops listed = x ++ i0 :: (i0 + 1) :: l2 → (∀ e ∈ l2, i0 + 1 < e) → Inv P kd.ft call ops ro φ Qp (x ++ i0 :: (i0 + 1) :: l2) s s' →
      ∃ os : List Oper, (Region.linearise.go m ops fuel t' listed []).map (fun i => ops[i]?) = os.map some ∧ DRun P call ops ro s.nx os s s' := by
  have free : ∀ e, e < i0 → ∀ o, ops[e]? = some o → (indep kd ro.mu ops o oA = true ∨ (Qp e i0 ∧ dynp kd ro.mu ops o oA = true)) := by
    intro e he o ho
    rcases hin e i0 o oA he ho hp.iA with h | h | h
    · rw [(hfree e (by omega)).1] at h; cases h
    · exact h
    · omega
  intro fuel
  induction fuel with
  | zero =>
    intro t' listed s s' x l2 hsz hf _ _ _ hr
    rw [hr] at hf
    simp at hf
  | succ fuel ih =>
    intro t' listed s s' x l2 hsz hf hc hi0 hwf hr hl2 h
    simp only [Region.linearise.go]
    change ∃ os : List Oper, (match (Region.ready m ops listed)[t' % (Region.ready m ops listed).length]? with
      | some i => Region.linearise.go m ops fuel (t' / (Region.ready m ops listed).length) (listed.setIfInBounds i true) [i]
      | none => [].reverse).map (fun i => ops[i]?) = os.map some ∧ DRun P call ops ro s.nx os s s'
    have hne : Region.ready m ops listed ≠ [] := hprog listed hsz (by rw [hr]; simp)
    cases hi : (Region.ready m ops listed)[t' % (Region.ready m ops listed).length]? with
    | none =>
      exfalso
      have hpos : 0 < (Region.ready m ops listed).length := List.length_pos_iff.2 hne
      have := Nat.mod_lt t' hpos
      rw [List.getElem?_eq_getElem this] at hi
      cases hi
    | some i =>
      simp only []
      have hri := List.mem_of_getElem? hi
      rw [mem_ready] at hri
      obtain ⟨hli, o, ho, haf⟩ := hri
      have hio : i < ops.size := (Array.getElem?_eq_some_iff.1 ho).1
      have hmem : i ∈ restOf ops listed := (mem_restOf listed i).2 ⟨hio, hli⟩
      have haf' : ∀ e ∈ o.after, Region.binds .any e = true → listed.getD e.on false = true := fun e he hb => haf e he (hbind e hb)
      have hb := before_listed hc hlt i o ho haf'
      have hc' := closed_set hc ho haf'
      have hxlt : ∀ e ∈ x, e < i0 := (rest_set hr).2
      have fin : ∀ (os : List Oper) (sN : St), astep P call ops ro o s = some sN → (Region.linearise.go m ops fuel (t' / (Region.ready m ops listed).length) (listed.setIfInBounds i true) []).map (fun i => ops[i]?) = os.map some → DRun P call ops ro s.nx os sN s' →
          ∃ os : List Oper, (Region.linearise.go m ops fuel (t' / (Region.ready m ops listed).length) (listed.setIfInBounds i true) [i]).map (fun i => ops[i]?) = os.map some ∧ DRun P call ops ro s.nx os s s' := by
        intro os sN g1 g2 g3
        refine ⟨o :: os, ?_, .op g1 g3⟩
        rw [linearise_go_acc, List.reverse_singleton, List.singleton_append, List.map_cons, g2, ho]
        rfl
      have hlen : (restOf ops (listed.setIfInBounds i true)).length ≤ fuel := by
        obtain ⟨l1, l3, hsp⟩ := List.append_of_mem hmem
        rw [(rest_set hsp).1]
        rw [hsp] at hf
        simp at hf ⊢
        omega
      rw [hr] at hmem
      rcases List.mem_append.1 hmem with hix | hix
      · obtain ⟨x1, x2, rfl⟩ := List.append_of_mem hix
        have hi0' := hxlt i (by simp)
        rw [List.append_assoc, List.cons_append] at h hr
        have h2 := Inv.bubble hk x1 _ (fun k hk' oa ob hka hob => by
          rw [ho] at hob; cases hob
          have hki : k < i := (rest_set hr).2 k hk'
          rcases hin k i oa o hki hka ho with hh | hh | hh
          · have := hb k hh
            rw [rest_listed hsz (by rw [hr]; simp [hk'])] at this
            cases this
          · exact hh
          · omega) h
        obtain ⟨o', s1, ho', h3, _, _, h4⟩ := h2
        rw [ho] at ho'; cases ho'
        obtain ⟨q1, q2, q3⟩ := hp.early i o hi0' ho
        obtain ⟨w1, w2, w3⟩ := tame_wf hk q1 (tame_eff q1) hwf h3
        obtain ⟨os, ho1, ho2⟩ := ih (t' / (Region.ready m ops listed).length) (listed.setIfInBounds i true) s1 s' (x1 ++ x2) l2 (by simpa using hsz) hlen hc' (by rw [getD_set_ne false (by omega)]; exact hi0) (by rw [w1]; exact w3) (by rw [(rest_set hr).1, List.append_assoc]) hl2 (by rw [List.append_assoc]; exact h4)
        rw [w1] at ho2
        exact fin os s1 h3 ho1 ho2
      · have h2 := Inv.bubble hk x _ (fun k hk' oa ob hka hob => by
          rw [hp.iA] at hob; cases hob
          exact free k (hxlt k hk') oa hka) h
        rcases List.mem_cons.1 hix with rfl | hix
        · rw [hp.iA] at ho; cases ho
          obtain ⟨o', sA, ho', h3, _, _, h4⟩ := h2
          rw [hp.iA] at ho'; cases ho'
          obtain ⟨os, ho1, ho2⟩ := go_any (P := P) (X := fun a b => a = i ∧ b = i + 1) hk s.nx hlt hin hbind hprog fuel (t' / (Region.ready m ops listed).length) (listed.setIfInBounds i true) _ s' (by simpa using hsz) hlen hc' (fun p q hpq => by
            rw [hpq.1]
            have : i < listed.size := by omega
            simp [Array.getD_eq_getD_getElem?, this]) (by rw [(rest_set hr).1]; exact h4)
          exact fin os sA h3 ho1 ho2
        · rcases List.mem_cons.1 hix with rfl | hix
          · rw [hp.iB] at ho; cases ho
            obtain ⟨o', sA, ho', h3, _, _, h4⟩ := h2
            rw [hp.iA] at ho'; cases ho'
            rw [astep_alloc hp.aA] at h3
            obtain ⟨zs, hz, _⟩ := Option.map_eq_some_iff.1 h3
            have hB : astep P call ops ro oB s = some ⟨s.tm.set b (.ptr s.nx 0, false), s.nx + 1, (s.nx, .cells zs) :: s.hp⟩ := by rw [astep_alloc hp.aB, hz]; rfl
            have hr2 : restOf ops listed = (x ++ [i0]) ++ (i0 + 1) :: l2 := by rw [hr]; simp
            obtain ⟨os, ho1, ho2⟩ := go_two (P := P) (φ := φ) (Qp := Qp) hk hp hlt hin hbind hprog hfree fuel (t' / (Region.ready m ops listed).length) (listed.setIfInBounds (i0 + 1) true) s _ s' x l2 (by simpa using hsz) hlen hc' (by rw [getD_set_ne false (by omega)]; exact hi0) hwf (by rw [(rest_set hr2).1]; simp) hl2 h hB
            exact fin os _ hB ho1 ho2
          · exfalso
            have := hb i0 (hp.late i hio (hl2 i hix))
            rw [hi0] at this
            cases this
end pair
theorem qRaw_get {b : Array Nat} {j : Nat} {q : List Nat} (h : (qRaw kd ro.mu ops b)[j]? = some q) : ∃ o, ops[j]? = some o ∧ ∀ i, i ∈ q ↔ i < j ∧ ∃ a, ops[i]? = some a ∧ (b.getD j 0).testBit i = false ∧ indep kd ro.mu ops a o = false ∧ ¬ (swapAt ro.mu ops b = some i ∧ j = i + 1) := by
  unfold qRaw at h
  rw [List.getElem?_map] at h
  obtain ⟨⟨o, n⟩, hp, rfl⟩ := Option.map_eq_some_iff.1 h
  rw [List.getElem?_zipIdx] at hp
  obtain ⟨o', ho, e⟩ := Option.map_eq_some_iff.1 hp
  cases e
  refine ⟨_, by simpa using ho, fun i => ?_⟩
  simp only [Nat.zero_add]
  rw [List.mem_filter, List.mem_range]
  constructor
  · rintro ⟨h1, h2⟩
    cases ha : ops[i]? with
    | none => rw [ha] at h2; cases h2
    | some a =>
      rw [ha] at h2
      simp only [Bool.and_eq_true, Bool.not_eq_true'] at h2
      exact ⟨h1, a, rfl, h2.1.1, h2.1.2, fun hc => by have := h2.2; simp [hc.1, hc.2] at this⟩
  · rintro ⟨h1, a, ha, h2, h3, h4⟩
    have : (swapAt ro.mu ops b == some i && j == i + 1) = false := by
      cases hq : (swapAt ro.mu ops b == some i && j == i + 1) with
      | false => rfl
      | true => exact absurd (by simpa using hq) h4
    exact ⟨h1, by rw [ha]; simp only [h2, h3, this]; rfl⟩
/-- The pairs of a list. -/
def PairIn (l : List (List Nat)) (i j : Nat) : Prop := ∃ q, l[j]? = some q ∧ i ∈ q
theorem qMark_get {l : List (List Nat)} {j : Nat} {m : List Nat} (h : (qMark l)[j]? = some m) : ∃ q, l[j]? = some q ∧ (∀ i, i ∈ q → i ∈ m) ∧ ((∃ k, PairIn l j k) → m.contains j = true) := by
  unfold qMark at h
  rw [List.getElem?_map] at h
  obtain ⟨⟨q, n⟩, hp, rfl⟩ := Option.map_eq_some_iff.1 h
  rw [List.getElem?_zipIdx] at hp
  obtain ⟨q', hq, e⟩ := Option.map_eq_some_iff.1 hp
  cases e
  simp only [Nat.zero_add]
  refine ⟨_, hq, fun i hi => ?_, fun ⟨k, q2, h2, hj⟩ => ?_⟩
  · split
    · exact .tail _ hi
    · exact hi
  · have : (l.any fun x => x.contains j) = true := List.any_eq_true.2 ⟨q2, List.mem_of_getElem? h2, by simpa using hj⟩
    rw [if_pos this]
    simp
theorem lookup_cons {α : Type} (j i : Nat) (a : α) (l : List (Nat × α)) : List.lookup i ((j, a) :: l) = if i = j then some a else List.lookup i l := by
  rw [List.lookup_cons]
  by_cases h : i = j
  · subst h; simp
  · rw [if_neg h, show (i == j) = false by simpa using h]
theorem inv_of (hk : Kds kd call) {raw : List (List Nat)} (hraw : ∀ i j, PairIn raw i j → i < j) : ∀ (l : List (Oper × List Nat)) (j : Nat) (tr : List (Nat × Heap × Heap)) (fs : List (Nat × Option Nat)) (s s' : St) (φ : Nat → Option Nat), ops.size = j + l.length →
    (∀ (k : Nat) p, l[k]? = some p → ops[j + k]? = some p.1 ∧ (qMark raw)[j + k]? = some p.2) → (∀ i f, fs.lookup i = some f → i < j ∧ φ i = f) → (∀ i h, tr.lookup i = some h → i < j) → aopsD P kd.ft call ops ro j l tr fs s = some s' →
    ∃ φ', (∀ i, i < j → φ' i = φ i) ∧ Inv P kd.ft call ops ro φ' (PairIn raw) (List.range' j l.length) s s' ∧ ∀ i h, tr.lookup i = some h → ∀ k ok, j ≤ k → ops[k]? = some ok → rdr kd.ft ro.mu ops ok = true → PairIn raw i k → Stay h.1 h.2 (φ' k) := by
  intro l
  induction l with
  | nil =>
    intro j tr fs s s' φ hsz _ _ _ h
    cases h
    refine ⟨φ, fun _ _ => rfl, rfl, fun i h _ k ok hk hok => ?_⟩
    have := (Array.getElem?_eq_some_iff.1 hok).1
    simp at hsz
    omega
  | cons p l ih =>
    obtain ⟨o, q⟩ := p
    intro j tr fs s s' φ hsz hl hfs htr h
    obtain ⟨ho, hq⟩ := hl 0 _ rfl
    rw [Nat.add_zero] at ho hq
    obtain ⟨qj, hqj, hsub, hmark⟩ := qMark_get hq
    have hl' : ∀ (k : Nat) p, l[k]? = some p → ops[j + 1 + k]? = some p.1 ∧ (qMark raw)[j + 1 + k]? = some p.2 := fun k p hp => by
      have := hl (k + 1) p (by simpa using hp)
      rwa [show j + (k + 1) = j + 1 + k by omega] at this
    have hsz' : ops.size = j + 1 + l.length := by rw [hsz, List.length_cons]; omega
    simp only [aopsD] at h
    cases h1 : astep P call ops ro o s with
    | none => rw [h1] at h; cases h
    | some s1 =>
      rw [h1] at h
      simp only at h
      split at h
      · rename_i hrd
        split at h
        · rename_i hok
          obtain ⟨φ', a1, a2, a3⟩ := ih (j + 1) tr _ s1 s' (fun i => if i = j then footAt o s else φ i) hsz' hl' (fun i f hf => by
            split at hf
            · rw [lookup_cons] at hf
              split at hf
              · rename_i e; cases hf; exact ⟨by omega, if_pos e⟩
              · rename_i e; obtain ⟨q1, q2⟩ := hfs i f hf; exact ⟨by omega, by rw [if_neg e]; exact q2⟩
            · obtain ⟨q1, q2⟩ := hfs i f hf; exact ⟨by omega, by rw [if_neg (by omega)]; exact q2⟩) (fun i h hh => by have := htr i h hh; omega) h
          have aj : φ' j = footAt o s := by rw [a1 j (by omega)]; exact if_pos rfl
          refine ⟨φ', fun i hi => by rw [a1 i (by omega)]; exact if_neg (by omega), ?_, fun i hh hlk k ok hjk hok' hr hp => ?_⟩
          · rw [List.length_cons, List.range'_succ]
            refine ⟨o, s1, ho, h1, fun _ => aj.symm, fun k ok _ _ _ => ?_, a2⟩
            rw [(astep_still hk (rdr_still hk hrd) h1).2]
            exact fun id e => rfl
          · by_cases e : k = j
            · subst e
              obtain ⟨q2, hq2, hi⟩ := hp
              rw [hqj] at hq2; cases hq2
              have := List.all_eq_true.1 hok i (hsub i hi)
              simp only [Bool.or_eq_true, beq_iff_eq] at this
              rcases this with e | hst
              · have := hraw i k ⟨qj, hqj, hi⟩; omega
              · rw [hlk] at hst
                rw [aj]
                exact stayB_spec hst
            · exact a3 i hh hlk k ok (by omega) hok' hr hp
        · cases h
      · rename_i hrd
        split at h
        · rename_i hok
          obtain ⟨φ', a1, a2, a3⟩ := ih (j + 1) _ fs s1 s' φ hsz' hl' (fun i f hf => by obtain ⟨q1, q2⟩ := hfs i f hf; exact ⟨by omega, q2⟩) (fun i h hh => by
            split at hh
            · rw [lookup_cons] at hh
              split at hh
              · omega
              · have := htr i h hh; omega
            · have := htr i h hh; omega) h
          refine ⟨φ', fun i hi => a1 i (by omega), ?_, fun i hh hlk k ok hjk hok' hr hp => ?_⟩
          · rw [List.length_cons, List.range'_succ]
            refine ⟨o, s1, ho, h1, fun hr => absurd hr hrd, fun k ok hok' hr hp => ?_, a2⟩
            rcases hp with hp | hp
            · obtain ⟨q2, hq2, hi⟩ := hp
              rw [hqj] at hq2; cases hq2
              have := List.all_eq_true.1 hok k (hsub k hi)
              simp only [Bool.or_eq_true, beq_iff_eq] at this
              have hlt := hraw k j ⟨qj, hqj, hi⟩
              rcases this with e | hst
              · omega
              · cases hf : fs.lookup k with
                | none => rw [hf] at hst; cases hst
                | some f =>
                  rw [hf] at hst
                  obtain ⟨q1, q2⟩ := hfs k f hf
                  rw [a1 k (by omega), q2]
                  exact stayB_spec hst
            · have hm := hmark ⟨k, hp⟩
              have hlt := hraw j k hp
              exact a3 j (s.hp, s1.hp) (by rw [if_pos hm, lookup_cons, if_pos rfl]) k ok (by omega) hok' hr hp
          · by_cases e : k = j
            · subst e
              rw [ho] at hok'; cases hok'
              exact absurd hr hrd
            · refine a3 i hh ?_ k ok (by omega) hok' hr hp
              split
              · rw [lookup_cons, if_neg (by have := htr i hh hlk; omega)]; exact hlk
              · exact hlk
        · cases h
theorem draws (hk : Kds kd call) (hsl : kd.sl = false) : Draws P kd call := by
  intro ops t ro s s' hwf h
  unfold areg qOf at h
  rw [if_pos rfl, if_neg (by rw [hsl]; decide)] at h
  cases hqa : qAll kd ro.mu ops with
  | none => rw [hqa] at h; cases h
  | some q =>
    rw [hqa] at h
    simp only at h
    unfold qAll at hqa
    simp only at hqa
    split at hqa
    rotate_left
    · cases hqa
    rename_i hok
    cases hqa
    simp only [qOk, Bool.and_eq_true] at hok
    obtain ⟨⟨hd, hdep⟩, hdyn⟩ := hok
    have zi : ∀ (j : Nat) (o : Oper), ops[j]? = some o → ops.toList.zipIdx[j]? = some (o, j) := by
      intro j o h
      simp [List.getElem?_zipIdx, h]
    have g0 : ∀ (j : Nat) (o : Oper), ops[j]? = some o → ∀ e ∈ o.after, (Region.binds .any e = true ∨ Region.binds .text e = true) → e.on < j := by
      intro j o ho e he hb
      have := List.all_eq_true.1 hd _ (List.mem_of_getElem? (zi j o ho))
      have := (Array.all_eq_true_iff_forall_mem.1 this) e he
      rw [Bool.or_eq_true, decide_eq_true_eq, Bool.and_eq_true] at this
      rcases this with h1 | ⟨h1, h2⟩
      · exact h1
      · rcases hb with hb | hb
        · rw [hb] at h1; cases h1
        · rw [hb] at h2; cases h2
    have g1 : ∀ (j : Nat) (o : Oper), ops[j]? = some o → ∀ e ∈ o.after, Region.binds .any e = true → e.on < j := fun j o ho e he hb => g0 j o ho e he (.inl hb)
    have hlen : (qRaw kd ro.mu ops (Region.before ops)).length = ops.size := by simp [qRaw]
    have hlenM : (qMark (qRaw kd ro.mu ops (Region.before ops))).length = ops.size := by simp [qMark, hlen]
    have g2 : ∀ (i j : Nat) (a b : Oper), i < j → ops[i]? = some a → ops[j]? = some b → ((Region.before ops).getD j 0).testBit i = true ∨ (indep kd ro.mu ops a b = true ∨ (PairIn (qRaw kd ro.mu ops (Region.before ops)) i j ∧ dynp kd ro.mu ops a b = true)) ∨ (swapAt ro.mu ops (Region.before ops) = some i ∧ j = i + 1) := by
      intro i j a b hij ha hb
      cases h1 : ((Region.before ops).getD j 0).testBit i with
      | true => exact .inl rfl
      | false =>
        cases h2 : indep kd ro.mu ops a b with
        | true => exact .inr (.inl (.inl rfl))
        | false =>
          by_cases hsw : swapAt ro.mu ops (Region.before ops) = some i ∧ j = i + 1
          · exact .inr (.inr hsw)
          have hjl : j < (qRaw kd ro.mu ops (Region.before ops)).length := by rw [hlen]; exact (Array.getElem?_eq_some_iff.1 hb).1
          have hq := List.getElem?_eq_getElem hjl
          obtain ⟨o, ho, hm⟩ := qRaw_get hq
          rw [hb] at ho; cases ho
          have hmem := (hm i).2 ⟨hij, a, ha, h1, h2, hsw⟩
          refine .inr (.inl (.inr ⟨⟨_, hq, hmem⟩, ?_⟩))
          have hz : (ops.toList.zip (qRaw kd ro.mu ops (Region.before ops)))[j]? = some (b, (qRaw kd ro.mu ops (Region.before ops))[j]) := by
            rw [List.getElem?_zip_eq_some]
            exact ⟨by simpa using hb, hq⟩
          have := List.all_eq_true.1 hdyn _ (List.mem_of_getElem? hz)
          have := List.all_eq_true.1 this i hmem
          rw [ha] at this
          exact this
    have hraw : ∀ i j, PairIn (qRaw kd ro.mu ops (Region.before ops)) i j → i < j := by
      rintro i j ⟨q, hq, hi⟩
      obtain ⟨o, _, hm⟩ := qRaw_get hq
      exact ((hm i).1 hi).1
    have hzl : (ops.toList.zip (qMark (qRaw kd ro.mu ops (Region.before ops)))).length = ops.size := by
      rw [List.length_zip, hlenM]; simp
    obtain ⟨φ, _, hinv, _⟩ := inv_of hk hraw _ 0 [] [] s s' (fun _ => none) (by rw [hzl]; omega) (fun k p hp => by
      rw [Nat.zero_add]
      obtain ⟨o, m⟩ := p
      rw [List.getElem?_zip_eq_some] at hp
      exact ⟨by simpa using hp.1, hp.2⟩) (fun i f hf => by cases hf) (fun i f hf => by cases hf) h
    rw [hzl] at hinv
    have hrest : restOf ops (Array.replicate ops.size false) = List.range' 0 ops.size := by
      rw [← List.range_eq_range']
      unfold restOf
      refine List.filter_eq_self.2 fun k hk => ?_
      have := List.mem_range.1 hk
      simp [Array.getD_eq_getD_getElem?, this]
    have fin : ∀ (m : Region.Mode) (t : Nat), (∀ e : Edge, Region.binds .any e = true → Region.binds m e = true) → (∀ listed : Array Bool, listed.size = ops.size → restOf ops listed ≠ [] → Region.ready m ops listed ≠ []) →
        ∃ os : List Oper, (Region.linearise m ops t).map (fun i => ops[i]?) = os.map some ∧ DRun P call ops ro s.nx os s s' := by
      intro m t hb hp
      have hcl : Closed ops (Array.replicate ops.size false) := by
        intro j o _ hj
        exfalso
        by_cases hk : j < ops.size
        · simp [Array.getD_eq_getD_getElem?, hk] at hj
        · simp [Array.getD_eq_getD_getElem?, hk] at hj
      have hle : (restOf ops (Array.replicate ops.size false)).length ≤ ops.size := by
        unfold restOf
        exact Nat.le_trans (List.length_filter_le _ _) (by simp)
      cases hsw : swapAt ro.mu ops (Region.before ops) with
      | none =>
        exact go_any (P := P) (X := fun _ _ => False) hk s.nx g1 (fun i j a b h1 h2 h3 => by
          rcases g2 i j a b h1 h2 h3 with h | h | h
          · exact .inl h
          · exact .inr (.inl h)
          · rw [hsw] at h; cases h.1) hb hp ops.size t (Array.replicate ops.size false) s s' (by simp) hle hcl (fun _ _ h => h.elim) (by rw [hrest]; exact hinv)
      | some i0 =>
        have hpa := List.find?_some hsw
        unfold pairAt at hpa
        split at hpa
        rotate_left
        · cases hpa
        rename_i tA a tB b hA hB
        obtain ⟨oA, iA, aA⟩ := Option.bind_eq_some_iff.1 hA
        obtain ⟨oB, iB, aB⟩ := Option.bind_eq_some_iff.1 hB
        simp only [Bool.and_eq_true, beq_iff_eq, bne_iff_ne] at hpa
        obtain ⟨⟨⟨⟨⟨rfl, hne⟩, z1⟩, z2⟩, hE⟩, hL⟩ := hpa
        have hpair : Pair ops ro.mu i0 oA oB tA a b := ⟨iA, iB, aA, aB, hne, fun e o he ho => by
          have hm : o ∈ ops.toList.take i0 := List.mem_of_getElem? (i := e) (by rw [List.getElem?_take, if_pos he]; simpa using ho)
          have := List.all_eq_true.1 hE o hm
          simp only [Bool.and_eq_true] at this
          exact ⟨this.1.1, this.1.2, this.2⟩, fun e he hi => by
          have := List.all_eq_true.1 hL e (List.mem_range.2 he)
          simp only [Bool.or_eq_true, decide_eq_true_eq, Bool.and_eq_true] at this
          rcases this with h | h
          · omega
          · exact h.1⟩
        have hsz : i0 + 1 < ops.size := (Array.getElem?_eq_some_iff.1 iB).1
        obtain ⟨l2, hsplit, hl2⟩ : ∃ l2, List.range' 0 ops.size = List.range' 0 i0 ++ i0 :: (i0 + 1) :: l2 ∧ ∀ e ∈ l2, i0 + 1 < e := by
          obtain ⟨k, hk⟩ : ∃ k, ops.size = i0 + (k + 1 + 1) := ⟨ops.size - (i0 + 2), by omega⟩
          refine ⟨List.range' (i0 + 1 + 1) k, ?_, fun e he => ?_⟩
          · rw [hk, ← List.range'_append_1, List.range'_succ, List.range'_succ]
            simp
          · have := List.mem_range'_1.1 he
            omega
        refine go_pair (P := P) hk hpair g1 (fun i j a b h1 h2 h3 => by
          rcases g2 i j a b h1 h2 h3 with h | h | h
          · exact .inl h
          · exact .inr (.inl h)
          · rw [hsw] at h; obtain ⟨q1, q2⟩ := h; cases q1; exact .inr (.inr ⟨rfl, q2⟩)) hb hp (fun e _ => by rw [z1, z2]; simp) ops.size t (Array.replicate ops.size false) s s' _ _ (by simp) hle hcl ?_ hwf (hrest.trans hsplit) hl2 (by rw [← hsplit]; exact hinv)
        have : i0 < ops.size := by omega
        simp [Array.getD_eq_getD_getElem?, this]
    have hany := fun t => fin .any t (fun _ h => h) fun listed hs hr => back_ready (fun j o ho e he hb => g0 j o ho e he (.inl hb)) hs hr
    have htext := fun t => fin .text t (fun e h => by unfold Region.binds at h ⊢; split at h <;> simp_all) fun listed hs hr => back_ready (fun j o ho e he hb => g0 j o ho e he (.inr hb)) hs hr
    unfold Region.schedule
    split
    · exact hany t
    · rename_i hnd
      have hgo : gcGoes ops = true := by
        simp only [Bool.or_eq_true, not_or, Bool.not_eq_true] at hnd
        rw [hnd.2] at hdep
        simpa using hdep
      split
      · exact htext (t / 2)
      · refine fin .gc (t / 2) (fun e h => by unfold Region.binds at h ⊢; split at h <;> simp_all) fun listed hs hr => ?_
        unfold gcGoes at hgo
        simp only [Bool.and_eq_true] at hgo
        obtain ⟨q1, q2⟩ := hgo
        refine topo_ready hs _ [] q2 (fun i hi => by cases hi) ?_
        obtain ⟨k, r, hkr⟩ := List.exists_cons_of_ne_nil hr
        have hk2 : k ∈ restOf ops listed := by rw [hkr]; simp
        unfold restOf at hk2
        rw [List.mem_filter] at hk2
        have := List.all_eq_true.1 q1 k hk2.1
        exact ⟨k, by simpa using this, by simpa using hk2.2⟩
end Go.Proofs.YtkpfkadjmijmlaaGreatDoor.M
/- The machine as a whole: what a law comes to. -/
namespace Go.Proofs.YtkpfkadjmijmlaaGreatDoor.M
open Go.RowKit
set_option linter.unusedVariables false
set_option linter.unusedSimpArgs false

theorem vl_pure {K : Cfg} {f : FuncId} (h : K.vl f = true) : K.pure f = true := by unfold Cfg.vl at h; simp at h; exact h.2
/-- Functions whose answer hangs on one array: a contract tells it, from wherever it is called. -/
def FtOk (K : Cfg) : Prop := ∀ f, K.ft f = true → K.pure f = true ∧ K.vl f = false ∧ ∀ a ro nx hp r, K.ext f [a] ro nx hp = some r → r.v.idsLt 0 = true ∧ ∀ ro' nx' hp', Stay hp hp' (footS a) → K.ext f [a] ro' nx' hp' = some ⟨r.v, r.own, nx', hp'⟩
mutual
theorem idsLt_zero (n : Nat) : ∀ v : AVal, v.idsLt 0 = true → v.idsLt n = true
  | .agg cs, h => by simp only [AVal.idsLt] at h ⊢; exact idsLts_zero n cs h
  | .lst cs, h => by simp only [AVal.idsLt] at h ⊢; exact idsLts_zero n cs h
  | .tup cs, h => by simp only [AVal.idsLt] at h ⊢; exact idsLts_zero n cs h
  | .ptr i o, h => by simp [AVal.idsLt] at h
  | .sl a b c d e, h => by simp [AVal.idsLt] at h
  | .pel e o, h => by simp only [AVal.idsLt] at h ⊢; exact idsLt_zero n e h
  | .map i, h => by simp [AVal.idsLt] at h
  | .clo f l m, h => by simp only [AVal.idsLt, Bool.and_eq_true] at h ⊢; exact ⟨idsLts_zero n l h.1, idsLts_zero n m h.2⟩
  | .int _ _, _ => by simp [AVal.idsLt]
  | .bool _, _ => by simp [AVal.idsLt]
  | .str _, _ => by simp [AVal.idsLt]
  | .nilp, _ => by simp [AVal.idsLt]
  | .nilf, _ => by simp [AVal.idsLt]
  | .nilm, _ => by simp [AVal.idsLt]
  | .nils, _ => by simp [AVal.idsLt]
  | .bad, _ => by simp [AVal.idsLt]
theorem idsLts_zero (n : Nat) : ∀ l : List AVal, idsLts 0 l = true → idsLts n l = true
  | [], _ => by simp [idsLts]
  | v :: r, h => by simp only [idsLts, Bool.and_eq_true] at h ⊢; exact ⟨idsLt_zero n v h.1, idsLts_zero n r h.2⟩
end
theorem sealed_low {n nx : Nat} {hp : Heap} {r : Res} (h : r.v.idsLt nx = true) : sealed n nx hp (some r) = some ⟨r.v, r.own, nx, hp⟩ := by
  have e : fz nx r.hp n r.v = some r.v := by cases n <;> simp only [fz] <;> rw [if_pos h]
  simp only [sealed, e, slOwn, h, Bool.and_true, if_true]
/-- A call that hangs on one array. -/
theorem arun_ft {K : Cfg} (hft : FtOk K) {n : Nat} {f : FuncId} {a : AVal} {ro nx : Nat} {hp : Heap} {r : Res} (hf : K.ft f = true) (h : arun K n f [a] ro nx hp = some r) (nx' : Nat) (hp' : Heap) (hs : Stay hp hp' (footS a)) : arun K n f [a] ro nx' hp' = some ⟨r.v, r.own, nx', hp'⟩ := by
  obtain ⟨h1, h2, h3⟩ := hft f hf
  have key : ∀ m, fin K m f nx hp (K.ext f [a] (low K f ro nx) nx hp) = some r → fin K m f nx' hp' (K.ext f [a] (low K f ro nx') nx' hp') = some ⟨r.v, r.own, nx', hp'⟩ := by
    intro m h
    cases he : K.ext f [a] (low K f ro nx) nx hp with
    | none => rw [he] at h; unfold fin at h; rw [if_pos h1] at h; cases h
    | some q =>
      rw [he] at h
      obtain ⟨g1, g2⟩ := h3 _ _ _ _ _ he
      rw [g2 _ _ _ hs]
      unfold fin at h ⊢
      rw [if_pos h1] at h ⊢
      rw [sealed_low (idsLt_zero _ _ g1)] at h
      injection h with h; subst h
      exact sealed_low (idsLt_zero _ _ g1)
  have hcore : ∀ (nx : Nat) (hp : Heap) (y : Func → Option Res), core K f [a] (low K f ro nx) nx hp y = K.ext f [a] (low K f ro nx) nx hp := by
    intro nx hp y
    unfold core
    cases K.ext f [a] (low K f ro nx) nx hp with
    | some q => rfl
    | none => simp only [hf, if_true]
  cases n with
  | zero =>
    rw [arun.eq_def] at h ⊢
    simp only [vlc, h2, Bool.false_eq_true, if_false] at h ⊢
    exact key 0 h
  | succ n =>
    rw [arun] at h ⊢
    simp only [vlc, h2, Bool.false_eq_true, if_false, hcore] at h ⊢
    exact key n h
theorem kds (K : Cfg) (hft : FtOk K) (n : Nat) : Kds (K.kd false) (arun K n) := by
  have e : ∃ g : FuncId → List AVal → Nat → Nat → Heap → Option Res, (∀ f args ro nx hp r, K.pure f = true → g f args ro nx hp = some r → r.nx = nx ∧ r.hp = hp) ∧ arun K n = fun f args ro nx hp => vlc K f args ro nx hp (g f args) := by
    have key : ∀ {m : Nat} {f : FuncId} {nx : Nat} {hp : Heap} {x : Option Res} {r : Res}, K.pure f = true → fin K m f nx hp x = some r → r.nx = nx ∧ r.hp = hp := by
      intro m f nx hp x r hp' h
      unfold fin at h
      rw [if_pos hp'] at h
      obtain ⟨q, u, _, _, _, rfl⟩ := sealed_inv h
      exact ⟨rfl, rfl⟩
    cases n with
    | zero => exact ⟨fun f args ro nx hp => fin K 0 f nx hp (K.ext f args (low K f ro nx) nx hp), fun f args ro nx hp r h1 h2 => key h1 h2, by funext f args ro nx hp; rw [arun.eq_def]⟩
    | succ n => exact ⟨fun f args ro nx hp => fin K n f nx hp (core K f args (low K f ro nx) nx hp fun fn => abody K.P (K.kd false) (arun K n) n ⟨low K f ro nx, K.mu f⟩ fn args nx hp), fun f args ro nx hp r h1 h2 => key h1 h2, by funext f args ro nx hp; rw [arun]⟩
  obtain ⟨g, hg, e⟩ := e
  refine ⟨fun f args ro nx hp r hp' h => ?_, fun f args ro nx hp r hv h => ?_, fun f h => vl_pure h, fun f h => (hft f h).1, fun f a ro nx hp r hf h nx' hp' hs => arun_ft hft hf h nx' hp' hs⟩
  · rw [e] at h
    simp only [vlc] at h
    split at h
    · split at h
      · cases hx : g f args 0 0 [] with
        | none => rw [hx] at h; cases h
        | some q => rw [hx] at h; cases h; exact ⟨rfl, rfl⟩
      · cases h
    · exact hg _ _ _ _ _ _ hp' h
  · have hv : K.vl f = true := hv
    rw [e] at h ⊢
    simp only [vlc, if_pos hv] at h ⊢
    split at h
    · rename_i hi
      cases hx : g f args 0 0 [] with
      | none => rw [hx] at h; cases h
      | some q => rw [hx] at h; cases h; exact ⟨rfl, rfl, fun _ _ _ => by simp only [if_pos hi]; rfl⟩
    · cases h
theorem R_right (K : Cfg) (hext : GoodCall K.P K.ext) (hsafe : RoCall K.ext) (hft : FtOk K) (hname : ∀ (f : FuncId) (fn : Func), K.P.funcs[f]? = some fn → fn.name ≠ "runtime.NumGoroutine") : GoodCall K.P (R K) :=
  R_good K hext hsafe (fun n => draws (kds K hft n) rfl) hname
/-- No contract at all. -/
theorem no_ext (P : Program) : GoodCall P (fun _ _ _ _ _ => none) ∧ RoCall (fun _ _ _ _ _ => none) := ⟨fun f args ro nx hp r h => (by cases h), fun f args ro nx hp r h => (by cases h)⟩
def ints (xs : List Int) : List AVal := xs.map (.int .i64)
/-- The world at the door: the numbers stay. -/
def Cx.door (W : World) (a : Option Addr) (n : Nat) : Cx := { ι := fun _ => 0, I := fun b o => ∃ x, a = some x ∧ x.spot = none ∧ b = x.block ∧ x.off ≤ o ∧ o < x.off + n, nx := 0, w := W }
theorem door_ok {W : World} {a : Option Addr} {xs : List Int} (hc : ∀ (i : Nat) p, xs[i]? = some p → ∃ x, a = some x ∧ W.cell? (x.add i) = some (.int .i64 p)) : WRel (Cx.door W a xs.length) W.heap.size (fun _ _ => False) W [] [] #[] := by
  have hg : ∀ i, ¬ (hget [] i).isSome = true := fun i h => by simp [hget] at h
  refine ⟨⟨Below.refl _ _, Nat.le_refl _, fun i hi => absurd hi (hg i), fun id cs h => by simp [hget] at h, fun i j hi => absurd hi (hg i), fun i hi => absurd hi (hg i), fun b o hI => ?_, fun b o hF => hF.elim, fun id es h => by simp [hget] at h⟩, rfl, fun t c ht => by simp at ht, fun k v cv ho => ?_, fun k1 k2 v1 c1 v2 c2 h1 => ?_⟩
  · obtain ⟨x, rfl, hs, rfl, h1, h2⟩ := hI
    obtain ⟨x', e, hx⟩ := hc (o - x.off) _ (List.getElem?_eq_getElem (by omega))
    injection e with e; subst e
    obtain ⟨b, o', s⟩ := x
    simp only at hs h1; subst hs
    rw [add_at, show o' + (o - o') = o by omega] at hx
    exact ⟨_, hx⟩
  · obtain ⟨i, t⟩ := k
    cases i with
    | zero => simp [Owned] at ho
    | succ id => obtain ⟨cs, vs, ty, h, _⟩ := ho; simp [hget] at h
  · obtain ⟨i, t⟩ := k1
    cases i with
    | zero => simp [Owned] at h1
    | succ id => obtain ⟨cs, vs, ty, h, _⟩ := h1; simp [hget] at h
theorem flats_ints (xs : List Int) : flats (ints xs) = ints xs := by
  unfold ints
  induction xs with
  | nil => rfl
  | cons x r ih => show [_] ++ flats (r.map _) = _; rw [ih]; rfl
theorem door_arg {W : World} {a : Option Addr} {xs : List Int} {cap : Nat} (hcap : xs.length ≤ cap) (hc : ∀ (i : Nat) p, xs[i]? = some p → ∃ x, a = some x ∧ W.cell? (x.add i) = some (.int .i64 p)) : RV (Cx.door W a xs.length) (.lst (ints xs)) (.slice a xs.length cap) := by
  have hl : (ints xs).length = xs.length := by simp [ints]
  have hm : ∀ x, x ∈ ints xs → ∃ p, x = .int .i64 p := fun x hx => by
    obtain ⟨p, _, rfl⟩ := List.mem_map.1 hx
    exact ⟨p, rfl⟩
  have := RV.lst (C := Cx.door W a xs.length) (ints xs) a cap 1 (fun i => .int .i64 (xs.getD i 0)) (by rw [hl]; exact hcap) (fun _ => Nat.one_pos) (fun x hx => by obtain ⟨p, rfl⟩ := hm x hx; rfl) (fun u hu => by rw [flats_ints] at hu; obtain ⟨p, rfl⟩ := hm u hu; rfl)
    (fun i u hu => by
      rw [flats_ints] at hu
      unfold ints at hu
      rw [List.getElem?_map] at hu
      obtain ⟨p, hp, rfl⟩ := Option.map_eq_some_iff.1 hu
      obtain ⟨x, hxe, hx⟩ := hc i p hp
      have hlt := (List.getElem?_eq_some_iff.1 hp).1
      obtain ⟨x', e, hx0⟩ := hc 0 _ (List.getElem?_eq_getElem (by omega))
      rw [hxe] at e; injection e with e; subst e
      subst hxe
      have hs : x.spot = none := by
        rw [show x.add 0 = x from rfl] at hx0
        simp only [World.cell?] at hx0
        split at hx0
        · split at hx0
          · cases hx0
          · rename_i h; simpa using h
        · cases hx0
      obtain ⟨b, o, s⟩ := x
      simp only at hs; subst hs
      refine ⟨b, o, rfl, ⟨_, rfl, rfl, rfl, by show o ≤ o + i; omega, by show o + i < o + xs.length; omega⟩, ?_⟩
      rw [add_at] at hx
      show W.cell? _ = _
      rw [hx, List.getD_eq_getElem?_getD, hp]; rfl)
    (fun i u hu => by
      rw [flats_ints] at hu
      unfold ints at hu
      rw [List.getElem?_map] at hu
      obtain ⟨p, hp, rfl⟩ := Option.map_eq_some_iff.1 hu
      rw [List.getD_eq_getElem?_getD, hp]
      exact .int _ _)
  rw [hl] at this
  exact this
/-- A law that the machine finds true is true. -/
theorem law_holds (K : Cfg) (hgood : GoodCall K.P (R K)) {f : FuncId} {fn : Func} {c : Code} (hf : K.P.funcs[f]? = some fn) (hb : fn.body = some c) (hname : fn.name ≠ "runtime.NumGoroutine") {xs : List Int} {own : Bool} {nx : Nat} {hp : Heap} (hR : R K f [.lst (ints xs)] 0 0 [] = some ⟨.bool true, own, nx, hp⟩)
    {W : World} {a : Option Addr} {cap : Nat} (hcap : xs.length ≤ cap) (hc : ∀ (i : Nat) p, xs[i]? = some p → ∃ x, a = some x ∧ W.cell? (x.add i) = some (.int .i64 p)) :
    Calls K.P f #[.slice a xs.length cap] W fun e w' => e = .returned (.bool true) ∧ Below W.heap.size W w' := by
  have h := hgood f _ 0 0 [] _ hR (Cx.door W a xs.length) W.heap.size (fun _ _ => False) W [.slice a xs.length cap] rfl (door_ok hc) rfl (fun i a' v ha hv => by
    cases i with
    | zero => simp at ha hv; subst ha hv; exact door_arg hcap hc
    | succ i => simp at ha)
  have h2 := h ⟨some 0, .alloc 0, 0, "", #[], none⟩ ⟨#[undef], []⟩ (fun a' w' => ∃ v, a'.tmps[0]? = some v ∧ Left (Cx.door W a xs.length) W.heap.size (fun _ _ => False) W ⟨.bool true, own, nx, hp⟩ v w') (fun _ _ _ => False) (fun v w' hl => ⟨v, by simp [Act.put], hl⟩)
  have hcf : (callFunc f [Value.slice a xs.length cap].toArray).run K.P W = .ok (.enter f [Value.slice a xs.length cap].toArray) W := by
    simp [callFunc, hf, hname, hb]
  rw [show (Cx.door W a xs.length).w = W from rfl, hcf] at h2
  refine Calls.mono h2 fun e w' he => ?_
  cases e with
  | returned v =>
    obtain ⟨v', hv', D, rfl, le, _, hW, hr, _⟩ := he
    simp [Act.put] at hv'
    subst hv'
    exact ⟨by rw [hr.bool_inv], hW.heap.below⟩
  | panicked ch => exact he.elim
  | outgrown => obtain ⟨_, _, he⟩ := he; exact he.elim
end Go.Proofs.YtkpfkadjmijmlaaGreatDoor.M
/- Contracts that were shown elsewhere, as calls of the machine. -/
namespace Go.Proofs.YtkpfkadjmijmlaaGreatDoor.M
open Go.RowKit
set_option linter.unusedVariables false

section
variable {P : Program} {C : Cx} {B : Nat} {F : Nat → Nat → Prop} {w0 : World} {hp : Heap}
/-- A call that leaves all old blocks as they were, and answers with something that a stands for. -/
theorem ans_below (h : WRel C B F w0 hp [] #[]) {f : FuncId} {fn : Func} {c : Code} (hf : P.funcs[f]? = some fn) (hb : fn.body = some c) (hname : fn.name ≠ "runtime.NumGoroutine") {vs : List Value} {a : AVal}
    (hc : Calls P f vs.toArray C.w fun e w' => ∃ v, e = .returned v ∧ Below C.w.heap.size C.w w' ∧ ∀ D : Cx, C.Le D → D.w = w' → RV D a v) : Ans P f vs.toArray C.w (Left C B F w0 ⟨a, false, C.nx, hp⟩) := by
  intro o act next Q hn
  have hcf : (callFunc f vs.toArray).run P C.w = .ok (.enter f vs.toArray) C.w := by simp [callFunc, hf, hname, hb]
  rw [hcf]
  refine Calls.mono hc fun e w' he => ?_
  obtain ⟨v, rfl, hbel, hr⟩ := he
  refine hn v w' ?_
  have g : Grow C { C with w := w' } := ⟨hbel, Nat.le_refl _, fun _ _ => rfl, fun _ _ h => h, fun _ _ h => .inl h, fun b o hI hb' => by
    obtain ⟨u, hu⟩ := h.heap.imm b o hI
    have := cell_lt hu
    omega⟩
  exact ⟨{ C with w := w' }, rfl, h.heap.le g, rfl, h.grow g, hr _ (h.heap.le g) rfl, fun q => by cases q⟩
/-- Two lists of contracts. -/
def orExt (a b : CallF) : CallF := fun f args ro nx hp => match a f args ro nx hp with
  | some r => some r
  | none => b f args ro nx hp
theorem orExt_good {a b : CallF} (ha : GoodCall P a) (hb : GoodCall P b) : GoodCall P (orExt a b) := by
  intro f args ro nx hp r h
  unfold orExt at h
  cases h1 : a f args ro nx hp with
  | some q => rw [h1] at h; cases h; exact ha _ _ _ _ _ _ h1
  | none => rw [h1] at h; exact hb _ _ _ _ _ _ h
theorem orExt_safe {a b : CallF} (ha : RoCall a) (hb : RoCall b) : RoCall (orExt a b) := by
  intro f args ro nx hp r h
  unfold orExt at h
  cases h1 : a f args ro nx hp with
  | some q => rw [h1] at h; cases h; exact ha _ _ _ _ _ _ h1
  | none => rw [h1] at h; exact hb _ _ _ _ _ _ h
/-- A contract on values alone: f answers to args with g args, if there is such. -/
def pureExt (f0 : FuncId) (g : List AVal → Option AVal) : CallF := fun f args ro nx hp => if f = f0 then (g args).map fun a => ⟨a, false, nx, hp⟩ else none
theorem pureExt_safe (f0 : FuncId) (g : List AVal → Option AVal) : RoCall (pureExt f0 g) := by
  intro f args ro nx hp r h hro
  unfold pureExt at h
  split at h
  · obtain ⟨a, _, rfl⟩ := Option.map_eq_some_iff.1 h
    exact ⟨Nat.le_refl _, fun _ _ => rfl⟩
  · cases h
theorem pureExt_good (f0 : FuncId) (g : List AVal → Option AVal) {fn : Func} {c : Code} (hf : P.funcs[f0]? = some fn) (hb : fn.body = some c) (hname : fn.name ≠ "runtime.NumGoroutine")
    (hg : ∀ (args : List AVal) (a : AVal), g args = some a → ∀ (C : Cx) (vs : List Value), vs.length = args.length → (∀ b o, C.I b o → ∃ u, C.w.cell? ⟨b, o, none⟩ = some u) → (∀ (i : Nat) (x : AVal) (v : Value), args[i]? = some x → vs[i]? = some v → RV C x v) →
      Calls P f0 vs.toArray C.w fun e w' => ∃ v, e = .returned v ∧ Below C.w.heap.size C.w w' ∧ ∀ D : Cx, C.Le D → D.w = w' → RV D a v) : GoodCall P (pureExt f0 g) := by
  intro f args ro nx hp r h C B F w0 vs hnx hW hl hr
  unfold pureExt at h
  split at h
  · rename_i e
    subst e
    obtain ⟨a, ha, rfl⟩ := Option.map_eq_some_iff.1 h
    subst hnx
    exact ans_below hW hf hb hname (hg args a ha C vs hl hW.heap.imm hr)
  · cases h
end
end Go.Proofs.YtkpfkadjmijmlaaGreatDoor.M
/- Contracts that write a row of the heap, or look at it. -/
namespace Go.Proofs.YtkpfkadjmijmlaaGreatDoor.M
open Go.RowKit
set_option linter.unusedVariables false
section
variable {P : Program} {C : Cx} {B : Nat} {F : Nat → Nat → Prop} {w0 : World} {hp : Heap} {tm : List Cell} {ct : Array Value}
variable {α : Type} [Inhabited α]
theorem heap_put (enc : α → Value) (w : World) (b q : Nat) (new : List α) {cur : Array Value} {ty : TypeId} {fr : Nat × Nat} (hb : w.heap[b]? = some (.cells cur ty fr)) :
    (Sort.putRow enc (Sort.ahead w q) b 0 new.toArray).heap = (w.setCells b 0 (new.map enc)).heap := by
  apply Array.ext_getElem?
  intro k
  by_cases hk : k = b
  · subst hk
    rw [setCells_block _ _ _ _ hb]
    simp only [Sort.putRow, Sort.mapBlock, Sort.ahead, Array.getElem?_modify, if_true, hb, Option.map_some, Sort.onCells]
    congr 2
    apply Array.ext_getElem?
    intro j
    rw [setsA_get]
    simp only [Sort.putCells, Array.getElem?_mapIdx, Nat.zero_le, true_and, Nat.zero_add, Nat.sub_zero, List.size_toArray, List.length_map]
    by_cases hj : j < cur.size
    · rw [Array.getElem?_eq_getElem hj]
      by_cases hn : j < new.length
      · rw [if_pos ⟨hn, hj⟩, Option.map_some, if_pos hn, List.getElem?_map, List.getElem?_eq_getElem hn]
        simp [hn]
      · rw [if_neg (fun h => hn h.1), Option.map_some, if_neg hn]
    · rw [Array.getElem?_eq_none (by omega), if_neg (fun h => hj h.2)]
      rfl
  · rw [setCells_other _ _ hk]
    simp only [Sort.putRow, Sort.mapBlock, Sort.ahead, Array.getElem?_modify, if_neg (Ne.symm hk)]
def Cx.row (C : Cx) (enc : α → Value) (id q : Nat) (new : List α) (os : Array Obj) : Cx := { C with w := Sort.grow (Sort.putRow enc (Sort.ahead C.w q) (C.ι id) 0 new.toArray) os }
theorem WRel.row (h : WRel C B F w0 hp tm ct) {id : Nat} {cs : List Cell} (hid : hget hp id = some (.cells cs)) (enc : α → Value) (encA : α → AVal) (hr : ∀ (C : Cx) x, RV C (encA x) (enc x)) (h1 : ∀ x, (encA x).one = true) (new : List α) (hl : new.length = cs.length) (q : Nat) (os : Array Obj) :
    C.Le (C.row enc id q new os) ∧ WRel (C.row enc id q new os) B F w0 (hset hp id (.cells (new.map fun x => (encA x, false)))) tm ct := by
  have hs : (hget hp id).isSome = true := by rw [hid]; rfl
  obtain ⟨vs0, ty, hb, _, _⟩ := h.heap.blk id cs hid
  have hW := h.store hid 0 (new.map fun x => (encA x, false)) (new.map enc) (by simp) (by simp [hl]) (fun i c hc => by
    rw [List.getElem?_map] at hc
    obtain ⟨x, hx, rfl⟩ := Option.map_eq_some_iff.1 hc
    exact ⟨h1 x, enc x, by rw [List.getElem?_map, hx]; rfl, hr C x, fun e => by cases e⟩)
  have e : setCs cs 0 (new.map fun x => (encA x, false)) = new.map fun x => (encA x, false) := by
    refine List.ext_getElem? fun j => ?_
    rw [setCs_get]
    split
    · rw [Nat.sub_zero]
    · rename_i hn
      simp only [List.length_map] at hn
      rw [List.getElem?_eq_none (by omega), List.getElem?_eq_none (by simp; omega)]
  rw [e] at hW
  have le1 := h.heap.le_stores hs 0 (new.map enc)
  have bel := below_setCells (B := 0) (a := C.w) (C.ι id) (Nat.zero_le _) (new.map enc) 0 C.w (Below.refl _ _)
  have hh : (C.row enc id q new os).w.heap = (C.stores id 0 (new.map enc)).w.heap ++ os := by
    show (Sort.putRow enc (Sort.ahead C.w q) (C.ι id) 0 new.toArray).heap ++ os = _
    rw [heap_put enc C.w (C.ι id) q new hb]; rfl
  have g : Grow (C.stores id 0 (new.map enc)) (C.row enc id q new os) := ⟨⟨(show _ = C.w.os from rfl).trans bel.os.symm, (show _ = C.w.tape from rfl).trans bel.tape.symm, (show _ = C.w.output from rfl).trans bel.output.symm, by rw [hh]; simp, fun k hk => by rw [hh, Array.getElem?_append_left hk]⟩,
    Nat.le_refl _, fun _ _ => rfl, fun _ _ h => h, fun _ _ h => .inl h, fun b o hI hb' => by
      obtain ⟨u, hu⟩ := hW.heap.imm b o hI
      have := cell_lt hu
      omega⟩
  exact ⟨le1.trans (hW.heap.le g), hW.grow g⟩
/-- A call that writes a row. -/
theorem ans_row (h : WRel C B F w0 hp [] #[]) {f : FuncId} {fn : Func} {c : Code} (hf : P.funcs[f]? = some fn) (hb : fn.body = some c) (hname : fn.name ≠ "runtime.NumGoroutine") {vs : List Value} {a : AVal} {id : Nat} {cs : List Cell} (hid : hget hp id = some (.cells cs))
    (enc : α → Value) (encA : α → AVal) (hr : ∀ (C : Cx) x, RV C (encA x) (enc x)) (h1 : ∀ x, (encA x).one = true) (new : List α) (hl : new.length = cs.length)
    (hc : Calls P f vs.toArray C.w fun e w' => ∃ v, e = .returned v ∧ (∃ q os, w' = Sort.grow (Sort.putRow enc (Sort.ahead C.w q) (C.ι id) 0 new.toArray) os) ∧ ∀ D : Cx, C.Le D → D.w = w' → RV D a v) :
    Ans P f vs.toArray C.w (Left C B F w0 ⟨a, false, C.nx, hset hp id (.cells (new.map fun x => (encA x, false)))⟩) := by
  intro o act next Q hn
  have hcf : (callFunc f vs.toArray).run P C.w = .ok (.enter f vs.toArray) C.w := by simp [callFunc, hf, hname, hb]
  rw [hcf]
  refine Calls.mono hc fun e w' he => ?_
  obtain ⟨v, rfl, ⟨q, os, hw⟩, hv⟩ := he
  obtain ⟨le, hW⟩ := h.row hid enc encA hr h1 new hl q os
  exact hn v w' ⟨C.row enc id q new os, hw.symm, le, rfl, hW, hv _ le hw.symm, fun q => by cases q⟩
def decs (dec : AVal → Option α) : List AVal → Option (List α)
  | [] => some []
  | v :: r => match dec v, decs dec r with
    | some x, some l => some (x :: l)
    | _, _ => none
omit [Inhabited α] in
theorem decs_spec {dec : AVal → Option α} {encA : α → AVal} (hd : ∀ v x, dec v = some x → v = encA x) : ∀ (l : List AVal) {xs : List α}, decs dec l = some xs → l = xs.map encA := by
  intro l
  induction l with
  | nil => intro xs h; cases h; rfl
  | cons v r ih =>
    intro xs h
    simp only [decs] at h
    split at h
    · rename_i x l' h1 h2
      cases h
      rw [hd _ _ h1, ih h2]; rfl
    · cases h
/-- A row of the heap that is read, written, and answered about. -/
def rowExt (f0 : FuncId) (dec : AVal → Option α) (encA : α → AVal) (g : List α → List α) (r0 : AVal) (res : Nat → List α → AVal) : CallF := fun f args ro nx hp => if f = f0 then match args with
    | [.lst []] => some ⟨r0, false, nx, hp⟩
    | [.sl id 0 n 1 false] => match hget hp id with
      | some (.cells cs) => match decs dec (cs.map (·.1)) with
        | some xs => if ro ≤ id ∧ 0 < n ∧ n = cs.length ∧ n < 1099511627776 ∧ (g xs).length = cs.length then some ⟨res id xs, false, nx, hset hp id (.cells ((g xs).map fun x => (encA x, false)))⟩ else none
        | none => none
      | _ => none
    | _ => none
  else none
omit [Inhabited α] in
theorem rowExt_safe (f0 : FuncId) (dec : AVal → Option α) (encA : α → AVal) (g : List α → List α) (r0 : AVal) (res : Nat → List α → AVal) : RoCall (rowExt f0 dec encA g r0 res) := by
  intro f args ro nx hp r h hro
  unfold rowExt at h
  split at h
  · split at h
    · cases h; exact ⟨Nat.le_refl _, fun _ _ => rfl⟩
    · split at h
      · split at h
        · split at h
          · rename_i hc
            cases h
            exact ⟨Nat.le_refl _, fun id hid => by rw [hget_hset, if_neg (by omega)]⟩
          · cases h
        · cases h
      · cases h
    · cases h
  · cases h
theorem rowExt_good (f0 : FuncId) (dec : AVal → Option α) (encA : α → AVal) (enc : α → Value) (g : List α → List α) (r0 : AVal) (v0 : Option Addr → Nat → Value) (res : Nat → List α → AVal) (val : Nat → List α → Nat → Value) {fn : Func} {c : Code} (hf : P.funcs[f0]? = some fn) (hb : fn.body = some c) (hname : fn.name ≠ "runtime.NumGoroutine")
    (hd : ∀ v x, dec v = some x → v = encA x) (hr : ∀ (C : Cx) x, RV C (encA x) (enc x)) (hri : ∀ (C : Cx) x u, RV C (encA x) u → u = enc x) (h1 : ∀ x, (encA x).one = true)
    (hc0 : ∀ (p : Option Addr) (cap : Nat) (W : World), Calls P f0 #[.slice p 0 cap] W fun e w' => e = .returned (v0 p cap) ∧ w' = W) (hv0 : ∀ (C : Cx) p cap, RV C (.lst []) (.slice p 0 cap) → RV C r0 (v0 p cap))
    (hc : ∀ (blk cap : Nat) (zs : List α) (W : World), Sort.Holds enc W blk 0 zs.toArray → blk < W.heap.size → 0 < zs.length → zs.length < 1099511627776 → zs.length ≤ cap → Calls P f0 #[.slice (some ⟨blk, 0, none⟩) zs.length cap] W fun e w' => e = .returned (val blk zs cap) ∧ ∃ q os, w' = Sort.grow (Sort.putRow enc (Sort.ahead W q) blk 0 (g zs).toArray) os)
    (hv : ∀ (D : Cx) id cap (zs : List α), RV D (.sl id 0 zs.length 1 false) (.slice (some ⟨D.ι id, 0, none⟩) zs.length cap) → RV D (res id zs) (val (D.ι id) zs cap)) : GoodCall P (rowExt f0 dec encA g r0 res) := by
  intro f args ro nx hp r h C B F w0 vs hnx hW hl hrv
  unfold rowExt at h
  split at h
  rotate_left
  · cases h
  rename_i e
  subst e
  subst hnx
  split at h
  · cases h
    match vs, hl with
    | [v], _ =>
      have hv' := hrv 0 _ v rfl rfl
      obtain ⟨A, c', sz, rfl, _⟩ := hv'.lst_inv
      exact ans_below hW hf hb hname (Calls.mono (hc0 A c' C.w) fun e w' he => ⟨_, he.1, by rw [he.2]; exact Below.refl _ _, fun D le _ => hv0 D _ _ (hv'.mono le)⟩)
  · rename_i id n
    split at h
    rotate_left
    · cases h
    rename_i cs hg
    split at h
    rotate_left
    · cases h
    rename_i xs hx
    split at h
    rotate_left
    · cases h
    rename_i hcnd
    obtain ⟨c1, c2, c3, c4, c5⟩ := hcnd
    cases h
    have hcs := decs_spec hd _ hx
    have hlen : xs.length = cs.length := by have := congrArg List.length hcs; simpa using this.symm
    match vs, hl with
    | [v], _ =>
      have hv' := hrv 0 _ v rfl rfl
      have hid : id < C.nx := hW.heap.ids id (by rw [hg]; rfl)
      obtain ⟨vs0, ty, hblk, hsz, hcells⟩ := hW.heap.blk id cs hg
      have hlt := (hW.heap.out id (by rw [hg]; rfl)).2.1
      obtain ⟨cap, hve, hcap⟩ : ∃ cap, v = .slice (some ⟨C.ι id, 0, none⟩) n cap ∧ n ≤ cap := by
        cases hv' with
        | sl id off len sz c ag h1 h2 h3 => exact ⟨c, rfl, h2⟩
      subst hve
      have hn : n = xs.length := by omega
      subst hn
      have hH : Sort.Holds enc C.w (C.ι id) 0 xs.toArray := by
        intro j hj
        simp only [List.size_toArray] at hj
        have hx' : xs.toArray[j]! = xs[j] := by simp [hj]
        rw [hx']
        have hc1 : (cs.map (·.1))[j]? = some (encA xs[j]) := by rw [hcs, List.getElem?_map, List.getElem?_eq_getElem hj]; rfl
        rw [List.getElem?_map] at hc1
        obtain ⟨c0, hc2, hc3⟩ := Option.map_eq_some_iff.1 hc1
        obtain ⟨_, u, hu, hru⟩ := hcells j c0 hc2
        rw [hc3] at hru
        have hue : u = enc xs[j] := hri C _ u hru
        subst hue
        refine ⟨?_, ?_⟩
        · simp [World.cell?, hblk, hu]
        · simp [World.frozen?, hblk]
      refine ans_row hW hf hb hname hg enc encA hr h1 (g xs) c5 (Calls.mono (hc (C.ι id) cap xs C.w hH hlt c2 c4 hcap) fun e w' he => ⟨_, he.1, he.2, fun D le hDw => ?_⟩)
      have := hv D id cap xs (by rw [le.map id hid]; exact hv'.mono le)
      rwa [le.map id hid] at this
  · cases h
end
end Go.Proofs.YtkpfkadjmijmlaaGreatDoor.M
/- Contracts: a row of strings or numbers is sorted; a map's keys, sorted. -/
namespace Go.Proofs.YtkpfkadjmijmlaaGreatDoor.M
open Go.RowKit
set_option linter.unusedVariables false
def encSA (l : List UInt8) : AVal := .str ⟨l.toArray⟩
def decS : AVal → Option (List UInt8)
  | .str s => some s.data.toList
  | _ => none
theorem decS_spec (v : AVal) (x : List UInt8) (h : decS v = some x) : v = encSA x := by
  unfold decS at h
  split at h
  · cases h; simp [encSA]
  · cases h
theorem encSA_rv (C : Cx) (x : List UInt8) : RV C (encSA x) (Go.Proofs.encStr x) := .str _
theorem encSA_inv (C : Cx) (x : List UInt8) (u : Value) (h : RV C (encSA x) u) : u = Go.Proofs.encStr x := h.str_inv
def encIA (n : Int) : AVal := .int .i64 n
def decI : AVal → Option Int
  | .int .i64 n => some n
  | _ => none
theorem decI_spec (v : AVal) (x : Int) (h : decI v = some x) : v = encIA x := by
  unfold decI at h
  split at h
  · cases h; rfl
  · cases h
section
variable {P : Program} {C : Cx} {B : Nat} {F : Nat → Nat → Prop} {w0 : World} {hp : Heap}
/-- A call that makes new blocks and answers with a list in them. -/
theorem ans_new (h : WRel C B F w0 hp [] #[]) {f : FuncId} {fn : Func} {c : Code} (hf : P.funcs[f]? = some fn) (hb : fn.body = some c) (hname : fn.name ≠ "runtime.NumGoroutine") {vs : List Value} {a : AVal}
    (hc : Calls P f vs.toArray C.w fun e w' => ∃ v, e = .returned v ∧ Below C.w.heap.size C.w w' ∧ ∀ D : Cx, C.Le D → D.w = w' → (∀ b o u, C.w.heap.size ≤ b → D.w.cell? ⟨b, o, none⟩ = some u → D.I b o) → RV D a v) : Ans P f vs.toArray C.w (Left C B F w0 ⟨a, false, C.nx, hp⟩) := by
  intro o act next Q hn
  have hcf : (callFunc f vs.toArray).run P C.w = .ok (.enter f vs.toArray) C.w := by simp [callFunc, hf, hname, hb]
  rw [hcf]
  refine Calls.mono hc fun e w' he => ?_
  obtain ⟨v, rfl, hbel, hr⟩ := he
  refine hn v w' ?_
  have g : Grow C { C with w := w', I := fun b o => C.I b o ∨ (C.w.heap.size ≤ b ∧ ∃ u, w'.cell? ⟨b, o, none⟩ = some u) } := ⟨hbel, Nat.le_refl _, fun _ _ => rfl, fun _ _ h => .inl h, fun b o h => h.imp id fun h => h.1, fun b o hI hb' => by
    rcases hI with hI | ⟨_, hu⟩
    · obtain ⟨u, hu⟩ := h.heap.imm b o hI
      have := cell_lt hu
      omega
    · exact hu⟩
  exact ⟨_, rfl, h.heap.le g, rfl, h.grow g, hr _ (h.heap.le g) rfl fun b o u hb' hu => .inr ⟨hb', u, hu⟩, fun q => by cases q⟩
theorem flats_strs (xs : List (List UInt8)) : flats (xs.map encSA) = xs.map encSA := by
  induction xs with
  | nil => rfl
  | cons x r ih => simp only [flats, List.map_cons, List.flatMap_cons] at ih ⊢; rw [ih]; rfl
theorem rv_row {D : Cx} {base : Nat} {e : TypeId} {v : Value} {xs : List (List UInt8)} (h : D.w.ownsRow base e 1 v xs.length (xs.map Go.Proofs.encStr)) (hI : ∀ b o u, base ≤ b → D.w.cell? ⟨b, o, none⟩ = some u → D.I b o) : RV D (.lst (xs.map encSA)) v := by
  rcases h.2 with ⟨rfl, h0⟩ | ⟨g, cap, cur, rfl, h1, h2, h3, h4, h5, h6⟩
  · obtain rfl := List.eq_nil_of_length_eq_zero h0
    exact .lst [] none 0 1 (fun _ => undef) (Nat.le_refl _) (fun h => absurd rfl h) (fun x hx => by cases hx) (fun u hu => by simp [flats] at hu) (fun i u hu => by simp [flats] at hu) (fun i u hu => by simp [flats] at hu)
  · have hl : (xs.map encSA).length = xs.length := List.length_map _
    have := RV.lst (C := D) (xs.map encSA) (some ⟨g, 0, none⟩) cap 1 (fun i => Go.Proofs.encStr (xs.getD i [])) (by rw [hl]; exact h3) (fun _ => Nat.one_pos) (fun x hx => by
      obtain ⟨y, _, rfl⟩ := List.mem_map.1 hx; rfl) (fun u hu => by
      rw [flats_strs] at hu
      obtain ⟨y, _, rfl⟩ := List.mem_map.1 hu; rfl) (fun i u hu => by
      rw [flats_strs] at hu
      have hi : i < xs.length := by have := (List.getElem?_eq_some_iff.1 hu).1; simpa using this
      have hc : D.w.cell? ⟨g, 0 + i, none⟩ = some (Go.Proofs.encStr (xs.getD i [])) := by
        have q : (cur.toList.take (xs.length * 1))[i]? = (xs.map Go.Proofs.encStr)[i]? := by rw [h6]
        rw [List.getElem?_take_of_lt (by omega), List.getElem?_map, List.getElem?_eq_getElem hi, Array.getElem?_toList] at q
        simp only [World.cell?, h2, Nat.zero_add]
        simpa [hi] using q
      exact ⟨g, 0, rfl, hI _ _ _ h1 hc, hc⟩) (fun i u hu => by
      rw [flats_strs, List.getElem?_map] at hu
      obtain ⟨y, hy, rfl⟩ := Option.map_eq_some_iff.1 hu
      have : xs.getD i [] = y := by simp [hy]
      rw [this]
      exact encSA_rv D y)
    rwa [hl] at this
abbrev leS (x y : List UInt8) : Bool := decide (x ≤ y)
/-- The keys of a map, sorted, as slices.Sorted gives them for maps.Keys' closure. -/
def keysExt (f0 g0 : FuncId) : CallF := fun f args ro nx hp => if f = f0 then match args with
    | [.clo g [] [.ptr p 0]] => if g = g0 then match hget hp p with
      | some (.cells ((.map m, _) :: _)) => match hget hp m with
        | some (.map es) => match decs decS (es.map (·.1)) with
          | some ks => if ks.length < 1099511627776 ∧ ks.all (fun k => decide (k.length ≤ 1000000)) then some ⟨.lst ((ks.mergeSort leS).map encSA), false, nx, hp⟩ else none
          | none => none
        | _ => none
      | _ => none
      else none
    | _ => none
  else none
theorem keysExt_safe (f0 g0 : FuncId) : RoCall (keysExt f0 g0) := by
  intro f args ro nx hp r h hro
  unfold keysExt at h
  repeat' split at h
  all_goals first | (cases h; done) | (cases h; exact ⟨Nat.le_refl _, fun _ _ => rfl⟩)
theorem insert_perm {H : Type} (x : Lit × DataW H) (l : List (Lit × DataW H)) : (DataW.insert x l).Perm (x :: l) := by
  induction l with
  | nil => exact List.Perm.refl _
  | cons y r ih =>
    unfold DataW.insert
    split
    · exact List.Perm.refl _
    · exact (ih.cons y).trans (List.Perm.swap x y r)
theorem inserts_perm {H : Type} (l : List (Lit × DataW H)) : (l.foldr DataW.insert []).Perm l := by
  induction l with
  | nil => exact List.Perm.refl _
  | cons x r ih => exact (insert_perm x _).trans (ih.cons x)
theorem keysExt_good (f0 g0 : FuncId) (kt st : TypeId) (hkt : P.underlying kt = some .string) {fn : Func} {c : Code} (hf : P.funcs[f0]? = some fn) (hb : fn.body = some c) (hname : fn.name ≠ "runtime.NumGoroutine")
    (hc : ∀ (Bm b nn : Nat) (D0 : DataW Unit) (R : Value → Option (DataW Unit × List MemPlace)) (w : World), Bm < w.heap.size → w.cell? ⟨Bm, 0, none⟩ = some (.map (some b)) → w.ownsMap P kt R b nn D0 → Maps.size D0 ≤ maxLen → Maps.size D0 * 16 ≤ 140737488355328 →
      Calls P f0 #[.func (.func g0) #[] #[.pointer (some ⟨Bm, 0, none⟩)]] w fun e w' => ∃ (v : Value) (ss : List (List UInt8)), e = .returned v ∧ ss.Perm (strKeys D0) ∧ w'.ownsRow w.heap.size st 1 v ss.length ((ss.mergeSort (fun x y => decide (x ≤ y))).map Go.Proofs.encStr) ∧ Below w.heap.size w w') : GoodCall P (keysExt f0 g0) := by
  intro f args ro nx hp r h C B F w0 vs hnx hW hl hrv
  unfold keysExt at h
  split at h
  rotate_left
  · cases h
  rename_i e
  subst e
  subst hnx
  split at h
  rotate_left
  · cases h
  rename_i g p
  split at h
  rotate_left
  · cases h
  rename_i e
  subst e
  split at h
  rotate_left
  · cases h
  rename_i m fl cs hp1
  split at h
  rotate_left
  · cases h
  rename_i es hm
  split at h
  rotate_left
  · cases h
  rename_i ks hks
  split at h
  rotate_left
  · cases h
  rename_i hcnd
  cases h
  obtain ⟨c1, c2⟩ := hcnd
  have hdk := decs_spec decS_spec _ hks
  have hkl : ks.length = es.length := by have := congrArg List.length hdk; simpa using this.symm
  match vs, hl with
  | [v], _ =>
    have hv := hrv 0 _ v rfl rfl
    have hve : v = .func (.func g) #[] #[.pointer (some ⟨C.ι p, 0, none⟩)] := by
      cases hv with
      | clo f fs cs fv cv h1 h2 h3 h4 =>
        match fv, h1, cv, h2 with
        | [], _, [u], _ =>
          have hu := h4 0 _ u rfl rfl
          cases hu
          rfl
    subst hve
    have hpid : p < C.nx := hW.heap.ids p (by rw [hp1]; rfl)
    obtain ⟨vs0, ty, hblk, hsz, hcells⟩ := hW.heap.blk p _ hp1
    obtain ⟨_, u, hu, hru⟩ := hcells 0 (.map m, fl) rfl
    obtain ⟨rfl, hmid⟩ := hru.mapv_inv
    obtain ⟨ents, clk, h1, h2, hst, h3⟩ := hW.heap.mapb m es hm
    have hlt := (hW.heap.out p (by rw [hp1]; rfl)).2.1
    have hkeys : ents.toList.map (·.key) = ks.map Go.Proofs.encStr := by
      refine List.ext_getElem? fun i => ?_
      rw [List.getElem?_map, List.getElem?_map, Array.getElem?_toList]
      by_cases hi : i < es.length
      · obtain ⟨x, q1, q2, q3⟩ := h3 i es[i] (List.getElem?_eq_getElem hi)
        have hk : (es.map (·.1))[i]? = (ks.map encSA)[i]? := by rw [hdk]
        rw [List.getElem?_map, List.getElem?_eq_getElem hi, List.getElem?_map, List.getElem?_eq_getElem (show i < ks.length by omega)] at hk
        simp only [Option.map_some, Option.some.injEq] at hk
        rw [hk] at q2
        rw [q1, List.getElem?_eq_getElem (show i < ks.length by omega)]
        simp only [Option.map_some]
        rw [encSA_inv C _ _ q2]
      · rw [Array.getElem?_eq_none (by omega), List.getElem?_eq_none (by omega)]; rfl
    have hrd : ∀ x ∈ ents.toList, ∃ k, k ∈ ks ∧ x.key = Go.Proofs.encStr k ∧ WideElems.rd P kt (fun _ => some ((.lit (.bool true) : DataW Unit), [])) x = some (.string k, .lit (.bool true)) := by
      intro x hx
      have : x.key ∈ ents.toList.map (·.key) := List.mem_map.2 ⟨x, hx, rfl⟩
      rw [hkeys] at this
      obtain ⟨k, hk, hke⟩ := List.mem_map.1 this
      have hlen : k.length ≤ maxLen := by
        have := List.all_eq_true.1 c2 k hk
        simp only [decide_eq_true_eq] at this
        exact Nat.le_trans this (by decide)
      refine ⟨k, hk, hke.symm, ?_⟩
      have hko : keyOf P kt x.key = some (.string k) := by
        rw [← hke]
        exact WideMaps.keyOf_string_mk hkt (s := ⟨k.toArray⟩) (by show k.toArray.size ≤ _; simpa using hlen)
      simp [WideElems.rd, hko]
    have hfit : WideElems.Fit P kt (fun _ => some ((.lit (.bool true) : DataW Unit), [])) ents clk := ⟨by rw [h2, ← hkl]; exact Nat.le_trans (Nat.le_of_lt c1) (by decide), hst, fun x hx => by
      obtain ⟨k, _, _, q⟩ := hrd x hx; exact ⟨_, q⟩⟩
    have hown : C.w.ownsMap P kt (fun _ => some ((.lit (.bool true) : DataW Unit), [])) (C.ι m) ents.size (.map ((ents.toList.map (WideElems.rg P kt fun _ => some (.lit (.bool true), []))).foldr DataW.insert [])) := ⟨ents, clk, h1, hfit, Nat.le_refl _, rfl⟩
    have hrg : ents.toList.map (WideElems.rg P kt fun _ => some ((.lit (.bool true) : DataW Unit), [])) = ks.map fun k => (Lit.string k, .lit (.bool true)) := by
      refine List.ext_getElem? fun i => ?_
      have hk : (ents.toList.map (·.key))[i]? = (ks.map Go.Proofs.encStr)[i]? := by rw [hkeys]
      rw [List.getElem?_map, List.getElem?_map] at hk ⊢
      cases hx : ents.toList[i]? with
      | none => rw [hx] at hk; cases hy : ks[i]? with
        | none => rfl
        | some y => rw [hy] at hk; cases hk
      | some x =>
        rw [hx] at hk
        cases hy : ks[i]? with
        | none => rw [hy] at hk; cases hk
        | some y =>
          rw [hy] at hk
          simp only [Option.map_some, Option.some.injEq] at hk ⊢
          obtain ⟨k, _, q1, q2⟩ := hrd x (List.mem_of_getElem? hx)
          have : k = y := encStr_inj (q1.symm.trans hk)
          subst this
          exact WideElems.rg_of q2
    rw [hrg] at hown
    have hperm := inserts_perm (ks.map fun k => (Lit.string k, (.lit (.bool true) : DataW Unit)))
    have hsize : Maps.size (.map ((ks.map fun k => (Lit.string k, (.lit (.bool true) : DataW Unit))).foldr DataW.insert [])) = ks.length := by
      rw [Maps.size_eq, hperm.length_eq, List.length_map]
    have hsk : (strKeys (.map ((ks.map fun k => (Lit.string k, (.lit (.bool true) : DataW Unit))).foldr DataW.insert []))).Perm ks := by
      have := hperm.map fun p => strOf p.1
      rw [List.map_map] at this
      have e : ks.map ((fun p : Lit × DataW Unit => strOf p.1) ∘ fun k => (Lit.string k, .lit (.bool true))) = ks := by
        conv => rhs; rw [← List.map_id ks]
        exact List.map_congr_left fun k _ => rfl
      rw [e] at this
      exact this
    have hcell : C.w.cell? ⟨C.ι p, 0, none⟩ = some (.map (some (C.ι m))) := by
      simp [World.cell?, hblk, hu]
    refine ans_new hW hf hb hname (Calls.mono (hc (C.ι p) (C.ι m) _ _ _ C.w hlt hcell hown (by rw [hsize]; exact Nat.le_trans (Nat.le_of_lt c1) (by decide)) (by rw [hsize]; omega)) fun e w' he => ?_)
    obtain ⟨v, ss, rfl, q1, q2, q3⟩ := he
    refine ⟨v, rfl, q3, fun D le hD hI => ?_⟩
    subst hD
    have hms : ss.mergeSort leS = ks.mergeSort leS := mergeSort_of_perm (q1.trans hsk)
    have hlen : ss.length = (ks.mergeSort leS).length := by rw [← hms, List.length_mergeSort]
    have q2' : D.w.ownsRow C.w.heap.size st 1 v (ks.mergeSort leS).length ((ks.mergeSort leS).map Go.Proofs.encStr) := by
      rw [← hlen, ← hms]; exact q2
    exact rv_row q2' hI
end
end Go.Proofs.YtkpfkadjmijmlaaGreatDoor.M
/- Contracts: an empty slice for empty ones; an element that is taken out of a row of structs. -/
namespace Go.Proofs.YtkpfkadjmijmlaaGreatDoor.M
open Go.RowKit
set_option linter.unusedVariables false
/-- An empty slice without room, for empty ones. -/
def emptyExt (f0 : FuncId) : CallF := fun f args ro nx hp => if f = f0 then match args with
    | [.lst []] => some ⟨.lst [], true, nx, hp⟩
    | _ => none
  else none
theorem emptyExt_safe (f0 : FuncId) : RoCall (emptyExt f0) := by
  intro f args ro nx hp r h hro
  unfold emptyExt at h
  split at h
  · split at h
    · cases h; exact ⟨Nat.le_refl _, fun _ _ => rfl⟩
    · cases h
  · cases h
/-- Element i is taken out of a row of structs of sz cells; behind it the zero value z stands once. -/
def delCells (sz i : Nat) (z : List AVal) (cs : List Cell) : List Cell := unown ((cs.take (sz * i)).map (·.1) ++ (cs.drop (sz * (i + 1))).map (·.1) ++ z)
def delExt (f0 : FuncId) (sz : Nat) (z : List AVal) : CallF := fun f args ro nx hp => if f = f0 then match args with
    | [.sl id 0 n s true, .int .i64 i, .int .i64 j] => match hget hp id with
      | some (.cells cs) => if ro ≤ id ∧ s = sz ∧ 0 ≤ i ∧ j = i + 1 ∧ j ≤ n ∧ cs.length = sz * n ∧ n < 1099511627776 then some ⟨.sl id 0 (n - 1) sz true, false, nx, hset hp id (.cells (delCells sz i.toNat z cs))⟩ else none
      | _ => none
    | _ => none
  else none
theorem delExt_safe (f0 : FuncId) (sz : Nat) (z : List AVal) : RoCall (delExt f0 sz z) := by
  intro f args ro nx hp r h hro
  unfold delExt at h
  split at h
  · split at h
    · split at h
      · split at h
        · rename_i hc
          cases h
          exact ⟨Nat.le_refl _, fun id hid => by rw [hget_hset, if_neg (by omega)]⟩
        · cases h
      · cases h
    · cases h
  · cases h
/-- A copy of a piece of an array of structs of sz cells. -/
def copyCells (off n sz : Nat) (cs : List Cell) : List AVal := ((cs.drop off).take (n * sz)).map (·.1)
def copyExt (f0 : FuncId) (sz : Nat) : CallF := fun f args ro nx hp => if f = f0 then match args with
    | [.sl id off n s true] => match hget hp id with
      | some (.cells cs) => if s = sz ∧ 0 < n ∧ n ≤ 20000 ∧ off + n * sz ≤ cs.length ∧ idsLts 0 (copyCells off n sz cs) = true then some ⟨.lst (chunks sz n (copyCells off n sz cs)), false, nx, hp⟩ else none
      | _ => none
    | _ => none
  else none
theorem copyExt_safe (f0 : FuncId) (sz : Nat) : RoCall (copyExt f0 sz) := by
  intro f args ro nx hp r h hro
  unfold copyExt at h
  repeat' split at h
  all_goals first | (cases h; done) | (cases h; exact ⟨Nat.le_refl _, fun _ _ => rfl⟩)
section
variable {P : Program} {C : Cx} {B : Nat} {F : Nat → Nat → Prop} {w0 : World} {hp : Heap}
theorem emptyExt_good (f0 : FuncId) {fn : Func} {c : Code} (hf : P.funcs[f0]? = some fn) (hb : fn.body = some c) (hname : fn.name ≠ "runtime.NumGoroutine")
    (hc : ∀ (A : Option Addr) (cap : Nat) (W : World), Calls P f0 #[.slice A 0 cap] W fun e w' => (∃ A', e = .returned (.slice A' 0 0)) ∧ Below W.heap.size W w') : GoodCall P (emptyExt f0) := by
  intro f args ro nx hp r h C B F w0 vs hnx hW hl hrv
  unfold emptyExt at h
  split at h
  rotate_left
  · cases h
  rename_i e
  subst e
  subst hnx
  split at h
  rotate_left
  · cases h
  cases h
  match vs, hl with
  | [v], _ =>
    have hv' := hrv 0 _ v rfl rfl
    obtain ⟨A, c', sz, rfl, _⟩ := hv'.lst_inv
    intro o act next Q hn
    have hcf : (callFunc f [Value.slice A ([] : List AVal).length c'].toArray).run P C.w = .ok (.enter f [Value.slice A ([] : List AVal).length c'].toArray) C.w := by simp [callFunc, hf, hname, hb]
    rw [hcf]
    refine Calls.mono (hc A c' C.w) fun e w' he => ?_
    obtain ⟨⟨A', rfl⟩, hbel⟩ := he
    refine hn _ w' ?_
    have g : Grow C { C with w := w' } := ⟨hbel, Nat.le_refl _, fun _ _ => rfl, fun _ _ h => h, fun _ _ h => .inl h, fun b o hI hb' => by
      obtain ⟨u, hu⟩ := hW.heap.imm b o hI
      have := cell_lt hu
      omega⟩
    have hr : RV { C with w := w' } (.lst []) (.slice A' 0 0) := RV.lst_mk (xs := []) (sz := 1) (by simp) (fun q => absurd rfl q) (fun x hx => by simp at hx) (fun u hu => by simp [flats] at hu) [] (by simp [flats]) (fun i v hi => by simp at hi) (fun i u v hu => by simp [flats] at hu)
    obtain ⟨o1, o2⟩ := own_full (B := B) (F := F) (hp := hp) (xs := []) hr
    exact ⟨{ C with w := w' }, rfl, hW.heap.le g, rfl, hW.grow g, hr, fun _ => ⟨o1, fun k v' cv' _ b o t => absurd t (o2 b o)⟩⟩
/-- A call that writes a block, and answers with something that a stands for. -/
theorem ans_stores (h : WRel C B F w0 hp [] #[]) {f : FuncId} {fn : Func} {c : Code} (hf : P.funcs[f]? = some fn) (hb : fn.body = some c) (hname : fn.name ≠ "runtime.NumGoroutine") {vs : List Value} {a : AVal} {id : Nat} {cs : List Cell} (hid : hget hp id = some (.cells cs)) (new : List AVal) (vals : List Value)
    (hvl : vals.length = new.length) (hl : new.length = cs.length) (h1 : ∀ x ∈ new, x.one = true) (hr : ∀ (i : Nat) x u, new[i]? = some x → vals[i]? = some u → RV C x u)
    (hc : Calls P f vs.toArray C.w fun e w' => ∃ v, e = .returned v ∧ w'.heap = (C.w.setCells (C.ι id) 0 vals).heap ∧ w'.os = C.w.os ∧ w'.tape = C.w.tape ∧ w'.output = C.w.output ∧ ∀ D : Cx, C.Le D → D.w = w' → RV D a v) :
    Ans P f vs.toArray C.w (Left C B F w0 ⟨a, false, C.nx, hset hp id (.cells (unown new))⟩) := by
  intro o act next Q hn
  have hcf : (callFunc f vs.toArray).run P C.w = .ok (.enter f vs.toArray) C.w := by simp [callFunc, hf, hname, hb]
  rw [hcf]
  refine Calls.mono hc fun e w' he => ?_
  obtain ⟨v, rfl, q1, q2, q3, q4, hv⟩ := he
  have hs : (hget hp id).isSome = true := by rw [hid]; rfl
  have hW := h.store hid 0 (unown new) vals (by simp [unown, hvl]) (by simp [unown, hl]) (fun i c hc => by
    unfold unown at hc
    rw [List.getElem?_map] at hc
    obtain ⟨x, hx, rfl⟩ := Option.map_eq_some_iff.1 hc
    have hlt := (List.getElem?_eq_some_iff.1 hx).1
    have hu := List.getElem?_eq_getElem (l := vals) (i := i) (by omega)
    exact ⟨h1 x (List.mem_of_getElem? hx), _, hu, hr i x _ hx hu, fun e => by cases e⟩)
  have e : setCs cs 0 (unown new) = unown new := by
    refine List.ext_getElem? fun j => ?_
    rw [setCs_get]
    split
    · rw [Nat.sub_zero]
    · rename_i hn
      simp only [unown, List.length_map] at hn
      rw [List.getElem?_eq_none (by omega), List.getElem?_eq_none (by simp [unown]; omega)]
  rw [e] at hW
  have le1 := h.heap.le_stores hs 0 vals
  have bel := below_setCells (B := 0) (a := C.w) (C.ι id) (Nat.zero_le _) vals 0 C.w (Below.refl _ _)
  have g : Grow (C.stores id 0 vals) { C with w := w' } := ⟨⟨q2.trans bel.os.symm, q3.trans bel.tape.symm, q4.trans bel.output.symm, by rw [q1]; exact Nat.le_refl _, fun k hk => by rw [q1]; rfl⟩,
    Nat.le_refl _, fun _ _ => rfl, fun _ _ h => h, fun _ _ h => .inl h, fun b o hI hb' => by
      obtain ⟨u, hu⟩ := hW.heap.imm b o hI
      have := cell_lt hu
      omega⟩
  have le := le1.trans (hW.heap.le g)
  exact hn v w' ⟨{ C with w := w' }, rfl, le, rfl, hW.grow g, hv _ le rfl, fun q => by cases q⟩
end
end Go.Proofs.YtkpfkadjmijmlaaGreatDoor.M
/- Plain words: names, fates, letters. No program in sight. -/
namespace Go.Proofs.YtkpfkadjmijmlaaGreatDoor.X
open Go

def smalls : List UInt8 := [97, 98, 99, 100, 101, 102, 103, 104, 105, 106, 107, 108, 109, 110, 111, 112, 113, 114, 115, 116, 117, 118, 119, 120, 121, 122]
def wordBytes : List UInt8 := [97, 98, 99, 100, 101, 102, 103, 104, 105, 106, 107, 108, 109, 110, 111, 112, 113, 114, 115, 116, 117, 118, 119, 120, 121, 122, 48, 49, 50, 51, 52, 53, 54, 55, 56, 57, 95]
def isWordL (l : List UInt8) : Bool := l == [112, 114, 111, 99] || l == [109, 97, 105, 110] || l == [105, 102] || l == [101, 108, 115, 101]
/-- A name of a play. -/
def nameL (l : List UInt8) : Bool := decide (1 ≤ l.length ∧ l.length ≤ 40) && !isWordL l && smalls.contains (l.headD 0) && l.all (wordBytes.contains ·)
def nameB (s : ByteArray) : Bool := nameL s.data.toList

theorem indexByte_mem (l : List UInt8) (c : UInt8) : 0 ≤ Lib.indexByte l c ↔ c ∈ l := by
  induction l with
  | nil => simp [Lib.indexByte]
  | cons b l ih =>
    have hge := Lib.indexByte_ge l c
    unfold Lib.indexByte
    by_cases h : b = c
    · subst h; simp
    · have h1 : (b == c) = false := by simpa using h
      rw [h1]
      have h2 : c ∈ b :: l ↔ c ∈ l := by
        simp only [List.mem_cons]
        constructor
        · rintro (h' | h')
          · exact absurd h'.symm h
          · exact h'
        · exact Or.inr
      rw [h2, ← ih]
      by_cases h3 : Lib.indexByte l c = -1
      · simp [h3]
      · have h4 : (Lib.indexByte l c == -1) = false := by simpa using h3
        simp only [h4, Bool.false_eq_true, if_false]
        omega
theorem indexByte_lt (l : List UInt8) (c : UInt8) : Lib.indexByte l c < l.length ∧ -1 ≤ Lib.indexByte l c := by
  refine ⟨?_, Lib.indexByte_ge l c⟩
  induction l with
  | nil => simp [Lib.indexByte]
  | cons b l ih =>
    unfold Lib.indexByte
    rw [List.length_cons]
    split
    · omega
    · split <;> omega
theorem dropWhile_nil {α : Type} (p : α → Bool) (l : List α) : l.dropWhile p = [] ↔ l.all p = true := by
  induction l with
  | nil => simp
  | cons a l ih =>
    rw [List.dropWhile_cons]
    by_cases h : p a = true
    · simp [h, ih]
    · simp [h]
theorem trimS_nil (l cs : List UInt8) : Lib.trimS l cs = [] ↔ l.all (cs.contains ·) = true := by
  unfold Lib.trimS Lib.trimLeftS
  rw [dropWhile_nil]
  unfold Lib.trimRightS
  constructor
  · intro h
    have h2 : ∀ r : List UInt8, (r.dropWhile (cs.contains ·)).all (cs.contains ·) = true → r.all (cs.contains ·) = true := by
      intro r
      induction r with
      | nil => simp
      | cons a r ih =>
        rw [List.dropWhile_cons]
        by_cases ha : cs.contains a = true
        · rw [if_pos ha]; intro h3; rw [List.all_cons, ha, ih h3]; rfl
        · rw [if_neg ha]; exact id
    have h3 := h2 l.reverse (by rw [← List.all_reverse]; exact h)
    rw [← List.all_reverse]; exact h3
  · intro h
    have : l.reverse.dropWhile (cs.contains ·) = [] := (dropWhile_nil _ _).2 (by rw [List.all_reverse]; exact h)
    rw [this]; rfl

theorem nameB_eq (s : ByteArray) (h : 0 < s.size) : nameB s = (decide (s.size ≤ 40) && !isWordL s.data.toList && smalls.contains s[0] && (Lib.trimS s.data.toList wordBytes).isEmpty) := by
  have hl : s.data.toList.length = s.size := rfl
  have h0 : s.data.toList.headD 0 = s[0] := by
    have : s.data.toList ≠ [] := by intro e; rw [e] at hl; simp at hl; omega
    obtain ⟨a, l, e⟩ := List.exists_cons_of_ne_nil this
    have h1 : s.data.toList[0]? = some s[0] := by
      rw [Array.getElem?_toList]; exact Array.getElem?_eq_getElem _
    rw [e] at h1 ⊢
    simpa using h1
  have h2 : (Lib.trimS s.data.toList wordBytes).isEmpty = s.data.toList.all (wordBytes.contains ·) := by
    rw [Bool.eq_iff_iff, List.isEmpty_iff]; exact trimS_nil _ _
  unfold nameB nameL
  rw [h0, h2, hl]
  congr 3
  simp; omega
theorem small_iff {k : Int} {c : UInt8} (h : k = Lib.indexByte smalls c) : 0 ≤ k ↔ smalls.contains c = true := by
  rw [h, indexByte_mem]; simp
theorem word_iff {k : Int} {c : UInt8} (h : k = Lib.indexByte wordBytes c) : 0 ≤ k ↔ wordBytes.contains c = true := by
  rw [h, indexByte_mem]; simp
/-- The first error of a list. -/
def errFirst {α : Type} (f : α → Int) : List α → Int
  | [] => 0
  | x :: r => if f x = 0 then errFirst f r else f x
theorem errFirst_append {α : Type} (f : α → Int) (l r : List α) (h : errFirst f l = 0) : errFirst f (l ++ r) = errFirst f r := by
  induction l with
  | nil => rfl
  | cons x l ih =>
    simp only [errFirst] at h
    by_cases hx : f x = 0
    · rw [if_pos hx] at h
      rw [List.cons_append, errFirst, if_pos hx, ih h]
    · rw [if_neg hx] at h; exact absurd h hx
theorem errFirst_hit {α : Type} (f : α → Int) {l : List α} {j : Nat} (hj : j < l.length) (h : errFirst f (l.take j) = 0) (hx : f l[j] ≠ 0) : errFirst f l = f l[j] := by
  have e : l = l.take j ++ l[j] :: l.drop (j + 1) := by rw [← List.drop_eq_getElem_cons hj, List.take_append_drop]
  conv => lhs; rw [e, errFirst_append f _ _ h]
  simp [errFirst, hx]
theorem errFirst_snoc {α : Type} (f : α → Int) {l : List α} {j : Nat} (hj : j < l.length) (h : errFirst f (l.take j) = 0) (hx : f l[j] = 0) : errFirst f (l.take (j + 1)) = 0 := by
  rw [List.take_succ_eq_append_getElem hj, errFirst_append f _ _ h]
  simp [errFirst, hx]
theorem errFirst_all {α : Type} (f : α → Int) {l : List α} {j : Nat} (hj : l.length ≤ j) (h : errFirst f (l.take j) = 0) : errFirst f l = 0 := by
  rwa [List.take_of_length_le hj] at h
def fateF (x : Int) : Int := if 0 ≤ x ∧ x ≤ 3 then 0 else 4
/-- lossy.CheckFates. -/
def fatesF (l : List Int) : Int := if 2000 < l.length then 2 else errFirst fateF l
structure Lt where
  label : ByteArray
  value : Int
def letF (x : Lt) : Int := if x.label.data.toList ≠ [] ∧ nameB x.label = false then 5 else if ¬ (0 ≤ x.value ∧ x.value ≤ 999) then 1 else if x.label.data.toList ≠ [] ∧ x.value ≠ 0 then 3 else 0
def lettersF (l : List Lt) : Int := if 500 < l.length then 2 else errFirst letF l
/-- The second error, if there is no first one. -/
def thenF (a b : Int) : Int := if a = 0 then b else a
def spanF (n a b : Int) : Int := if a ≤ n ∧ n ≤ b then 0 else 1
def orF (l : List Int) : Int := errFirst id l
end Go.Proofs.YtkpfkadjmijmlaaGreatDoor.X
/- Contracts of the library, laid at this program. -/
namespace Go.Proofs
open Go.Shelf
def Tryz.lays160_ren : Go.Shelf.Ren := ⟨fun | 160 => 117 | 232 => 145 | 231 => 144 | 227 => 146 | 234 => 148 | 233 => 147 | 236 => 150 | 235 => 149 | 228 => 164 | 271 => 167 | 151 => 166 | 197 => 165 | 120 => 183 | 152 => 182 | 260 => 181 | 137 => 90 | 119 => 192 | 224 => 193 | 225 => 194 | 217 => 118 | 266 => 151 | n => n, fun | 9 => 9 | 4 => 4 | 3 => 3 | 5 => 5 | 117 => 179 | 116 => 178 | 0 => 0 | 124 => 182 | 21 => 21 | 105 => 192 | 46 => 118 | 119 => 217 | 139 => 220 | 138 => 219 | n => n, fun | 3 => 4 | 4 => 5 | n => n⟩
theorem Tryz.lays160 : Go.Proofs.Lays.n160 Tryz.prog Tryz.lays160_ren := {
  mixed := by kernel_rfl
  f119 := Tryz.func192.trans (congrArg some (by kernel_rfl))
  f120 := Tryz.func183.trans (congrArg some (by kernel_rfl))
  f137 := Tryz.func90.trans (congrArg some (by kernel_rfl))
  f151 := Tryz.func166.trans (congrArg some (by kernel_rfl))
  f152 := Tryz.func182.trans (congrArg some (by kernel_rfl))
  f160 := Tryz.func117.trans (congrArg some (by kernel_rfl))
  f197 := Tryz.func165.trans (congrArg some (by kernel_rfl))
  f217 := Tryz.func118.trans (congrArg some (by kernel_rfl))
  f224 := Tryz.func193.trans (congrArg some (by kernel_rfl))
  f225 := Tryz.func194.trans (congrArg some (by kernel_rfl))
  f227 := Tryz.func146.trans (congrArg some (by kernel_rfl))
  f228 := Tryz.func164.trans (congrArg some (by kernel_rfl))
  f231 := Tryz.func144.trans (congrArg some (by kernel_rfl))
  f232 := Tryz.func145.trans (congrArg some (by kernel_rfl))
  f233 := Tryz.func147.trans (congrArg some (by kernel_rfl))
  f234 := Tryz.func148.trans (congrArg some (by kernel_rfl))
  f235 := Tryz.func149.trans (congrArg some (by kernel_rfl))
  f236 := Tryz.func150.trans (congrArg some (by kernel_rfl))
  f260 := Tryz.func181.trans (congrArg some (by kernel_rfl))
  f266 := Tryz.func151.trans (congrArg some (by kernel_rfl))
  f271 := Tryz.func167.trans (congrArg some (by kernel_rfl))
  t0 := Tryz.underlying0
  a0 := Tryz.isAgg0
  z0 := Tryz.sizeOf0
  v0 := Tryz.zeroValue0
  t3 := Tryz.underlying3
  a3 := Tryz.isAgg3
  z3 := Tryz.sizeOf3
  v3 := Tryz.zeroValue3
  t4 := Tryz.underlying4
  a4 := Tryz.isAgg4
  z4 := Tryz.sizeOf4
  v4 := Tryz.zeroValue4
  t5 := Tryz.underlying5
  a5 := Tryz.isAgg5
  z5 := Tryz.sizeOf5
  v5 := Tryz.zeroValue5
  t9 := Tryz.underlying9
  a9 := Tryz.isAgg9
  z9 := Tryz.sizeOf9
  v9 := Tryz.zeroValue9
  t21 := Tryz.underlying21
  a21 := Tryz.isAgg21
  z21 := Tryz.sizeOf21
  v21 := Tryz.zeroValue21
  t46 := Tryz.underlying118
  a46 := Tryz.isAgg118
  z46 := Tryz.sizeOf118
  v46 := Tryz.zeroValue118
  t105 := Tryz.underlying192
  a105 := Tryz.isAgg192
  z105 := Tryz.sizeOf192
  v105 := Tryz.zeroValue192
  t116 := Tryz.underlying178
  a116 := Tryz.isAgg178
  z116 := Tryz.sizeOf178
  t117 := Tryz.underlying179
  a117 := Tryz.isAgg179
  z117 := Tryz.sizeOf179
  v117 := Tryz.zeroValue179
  t119 := Tryz.underlying217
  a119 := Tryz.isAgg217
  z119 := Tryz.sizeOf217
  t124 := Tryz.underlying182
  a124 := Tryz.isAgg182
  z124 := Tryz.sizeOf182
  v124 := Tryz.zeroValue182
  t138 := Tryz.underlying219
  a138 := Tryz.isAgg219
  z138 := Tryz.sizeOf219
  v138 := Tryz.zeroValue219
  t139 := Tryz.underlying220
  a139 := Tryz.isAgg220
  z139 := Tryz.sizeOf220
  v139 := Tryz.zeroValue220
  g3 := by kernel_rfl
  g4 := by kernel_rfl }
def Tryz.lays137_ren : Go.Shelf.Ren := ⟨fun | 137 => 90 | 217 => 118 | 266 => 151 | n => n, fun | 9 => 9 | 5 => 5 | 3 => 3 | n => n, fun | n => n⟩
theorem Tryz.lays137 : Go.Proofs.Lays.n137 Tryz.prog Tryz.lays137_ren := {
  mixed := by kernel_rfl
  f137 := Tryz.func90.trans (congrArg some (by kernel_rfl))
  f217 := Tryz.func118.trans (congrArg some (by kernel_rfl))
  f266 := Tryz.func151.trans (congrArg some (by kernel_rfl))
  t3 := Tryz.underlying3
  a3 := Tryz.isAgg3
  z3 := Tryz.sizeOf3
  v3 := Tryz.zeroValue3
  t5 := Tryz.underlying5
  a5 := Tryz.isAgg5
  z5 := Tryz.sizeOf5
  v5 := Tryz.zeroValue5
  t9 := Tryz.underlying9
  a9 := Tryz.isAgg9
  z9 := Tryz.sizeOf9
  v9 := Tryz.zeroValue9 }
open Go.RowKit in
theorem Tryz.strings_IndexByte (s : ByteArray) (c : Int) (w : World) :
    Calls Tryz.prog 90 #[.string s, .int .u8 c] w fun e w' => e = .returned (.int .i64 (Lib.indexByte s.data.toList c.toNat.toUInt8)) ∧ w' = w := Any.strings_IndexByte Tryz.lays137 s c w
def Tryz.lays105_ren : Go.Shelf.Ren := ⟨fun | 105 => 37 | 212 => 77 | 99 => 78 | 165 => 79 | 166 => 80 | 170 => 63 | 169 => 64 | 263 => 109 | 264 => 110 | 206 => 111 | 240 => 112 | 241 => 113 | 276 => 131 | 277 => 132 | n => n, fun | 9 => 9 | 3 => 3 | 4 => 4 | 20 => 20 | 0 => 0 | 46 => 118 | 109 => 119 | 5 => 5 | 72 => 98 | 76 => 125 | 51 => 151 | 146 => 152 | 53 => 154 | 148 => 155 | 70 => 95 | 37 => 96 | 75 => 124 | 127 => 136 | 164 => 164 | 80 => 61 | n => n, fun | n => n⟩
theorem Tryz.lays105 : Go.Proofs.Lays.n105 Tryz.prog Tryz.lays105_ren := {
  mixed := by kernel_rfl
  f99 := Tryz.func78.trans (congrArg some (by kernel_rfl))
  f105 := Tryz.func37.trans (congrArg some (by kernel_rfl))
  f165 := Tryz.func79.trans (congrArg some (by kernel_rfl))
  f166 := Tryz.func80.trans (congrArg some (by kernel_rfl))
  f169 := Tryz.func64.trans (congrArg some (by kernel_rfl))
  f170 := Tryz.func63.trans (congrArg some (by kernel_rfl))
  f206 := Tryz.func111.trans (congrArg some (by kernel_rfl))
  f212 := Tryz.func77.trans (congrArg some (by kernel_rfl))
  f240 := Tryz.func112.trans (congrArg some (by kernel_rfl))
  f241 := Tryz.func113.trans (congrArg some (by kernel_rfl))
  f263 := Tryz.func109.trans (congrArg some (by kernel_rfl))
  f264 := Tryz.func110.trans (congrArg some (by kernel_rfl))
  f276 := Tryz.func131.trans (congrArg some (by kernel_rfl))
  f277 := Tryz.func132.trans (congrArg some (by kernel_rfl))
  t0 := Tryz.underlying0
  a0 := Tryz.isAgg0
  z0 := Tryz.sizeOf0
  v0 := Tryz.zeroValue0
  t3 := Tryz.underlying3
  a3 := Tryz.isAgg3
  z3 := Tryz.sizeOf3
  v3 := Tryz.zeroValue3
  t4 := Tryz.underlying4
  a4 := Tryz.isAgg4
  z4 := Tryz.sizeOf4
  v4 := Tryz.zeroValue4
  t5 := Tryz.underlying5
  a5 := Tryz.isAgg5
  z5 := Tryz.sizeOf5
  v5 := Tryz.zeroValue5
  t9 := Tryz.underlying9
  a9 := Tryz.isAgg9
  z9 := Tryz.sizeOf9
  v9 := Tryz.zeroValue9
  t20 := Tryz.underlying20
  a20 := Tryz.isAgg20
  z20 := Tryz.sizeOf20
  v20 := Tryz.zeroValue20
  t37 := Tryz.underlying96
  a37 := Tryz.isAgg96
  z37 := Tryz.sizeOf96
  v37 := Tryz.zeroValue96
  t46 := Tryz.underlying118
  a46 := Tryz.isAgg118
  z46 := Tryz.sizeOf118
  v46 := Tryz.zeroValue118
  t51 := Tryz.underlying151
  a51 := Tryz.isAgg151
  z51 := Tryz.sizeOf151
  v51 := Tryz.zeroValue151
  t53 := Tryz.underlying154
  a53 := Tryz.isAgg154
  z53 := Tryz.sizeOf154
  v53 := Tryz.zeroValue154
  t70 := Tryz.underlying95
  a70 := Tryz.isAgg95
  z70 := Tryz.sizeOf95
  v70 := Tryz.zeroValue95
  t72 := Tryz.underlying98
  a72 := Tryz.isAgg98
  z72 := Tryz.sizeOf98
  v72 := Tryz.zeroValue98
  t75 := Tryz.underlying124
  a75 := Tryz.isAgg124
  z75 := Tryz.sizeOf124
  v75 := Tryz.zeroValue124
  t76 := Tryz.underlying125
  a76 := Tryz.isAgg125
  z76 := Tryz.sizeOf125
  v76 := Tryz.zeroValue125
  t109 := Tryz.underlying119
  a109 := Tryz.isAgg119
  z109 := Tryz.sizeOf119
  v109 := Tryz.zeroValue119
  t127 := Tryz.underlying136
  a127 := Tryz.isAgg136
  z127 := Tryz.sizeOf136
  v127 := Tryz.zeroValue136
  t146 := Tryz.underlying152
  a146 := Tryz.isAgg152
  z146 := Tryz.sizeOf152
  v146 := Tryz.zeroValue152
  t148 := Tryz.underlying155
  a148 := Tryz.isAgg155
  z148 := Tryz.sizeOf155
  v148 := Tryz.zeroValue155
  t164 := Tryz.underlying164
  a164 := Tryz.isAgg164
  z164 := Tryz.sizeOf164
  v164 := Tryz.zeroValue164 }
theorem Tryz.Builder_Extra_105 : Builder.Extra Tryz.prog Tryz.lays105_ren := {
  sizeBuilder := by kernel_rfl
  liesBuilder := by kernel_rfl
  t5 := Tryz.underlying5
  a5 := Tryz.isAgg5
  z5 := Tryz.sizeOf5
  v5 := Tryz.zeroValue5
  infoByte := by kernel_rfl
  cellsByte := by kernel_rfl
  sizeByte := by kernel_rfl
  neB5 := by decide }
open Go.RowKit Go.Lib in
theorem Tryz.strings_Repeat (s : ByteArray) (c : Nat) (w : World) (hc : c ≤ 9223372036854775807) (hlen : s.size * c ≤ 140737488355328) :
    Calls Tryz.prog 37 #[.string s, .int .i64 c] w fun e w' => e = .returned (.string ⟨(Lib.repeatL s.data.toList c).toArray⟩) ∧ Below w.heap.size w w' := Any.strings_Repeat Tryz.lays105 Tryz.Builder_Extra_105 s c w hc hlen
def Tryz.lays109_ren : Go.Shelf.Ren := ⟨fun | 109 => 119 | n => n, fun | 31 => 73 | 9 => 9 | 3 => 3 | 0 => 0 | 4 => 4 | n => n, fun | n => n⟩
theorem Tryz.lays109 : Go.Proofs.Lays.n109 Tryz.prog Tryz.lays109_ren := {
  mixed := by kernel_rfl
  f109 := Tryz.func119.trans (congrArg some (by kernel_rfl))
  t0 := Tryz.underlying0
  a0 := Tryz.isAgg0
  z0 := Tryz.sizeOf0
  v0 := Tryz.zeroValue0
  t3 := Tryz.underlying3
  a3 := Tryz.isAgg3
  z3 := Tryz.sizeOf3
  v3 := Tryz.zeroValue3
  t4 := Tryz.underlying4
  a4 := Tryz.isAgg4
  z4 := Tryz.sizeOf4
  v4 := Tryz.zeroValue4
  t9 := Tryz.underlying9
  a9 := Tryz.isAgg9
  z9 := Tryz.sizeOf9
  v9 := Tryz.zeroValue9
  t31 := Tryz.underlying73
  a31 := Tryz.isAgg73
  z31 := Tryz.sizeOf73
  v31 := Tryz.zeroValue73 }
open Go.Lib in
theorem Tryz.slices_Index_string (b off n c : Nat) (zs : List ByteArray) (x : ByteArray) (w : World) (hz : n ≤ zs.length) (hbig : n ≤ 9223372036854775807) (hc : ∀ j, j < zs.length → w.cell? ⟨b, off + j, none⟩ = some (.string (zs.getD j ByteArray.empty))) :
    Calls Tryz.prog 119 #[.slice (some ⟨b, off, none⟩) n c, .string x] w fun e w' => e = .returned (.int .i64 (Lib.idxOfS (zs.take n) x)) ∧ w' = w := Any.slices_Index_string Tryz.lays109 b off n c zs x w hz hbig hc
open Go.Lib in
theorem Tryz.slices_Index_string_empty (a : Option Addr) (c : Nat) (x : ByteArray) (w : World) :
    Calls Tryz.prog 119 #[.slice a 0 c, .string x] w fun e w' => e = .returned (.int .i64 (Lib.idxOfS [] x)) ∧ w' = w := Any.slices_Index_string_empty Tryz.lays109 a c x w
def Tryz.lays110_ren : Go.Shelf.Ren := ⟨fun | 110 => 91 | 109 => 119 | n => n, fun | 31 => 73 | 9 => 9 | 4 => 4 | 3 => 3 | 0 => 0 | n => n, fun | n => n⟩
theorem Tryz.lays110 : Go.Proofs.Lays.n110 Tryz.prog Tryz.lays110_ren := {
  mixed := by kernel_rfl
  f109 := Tryz.func119.trans (congrArg some (by kernel_rfl))
  f110 := Tryz.func91.trans (congrArg some (by kernel_rfl))
  t0 := Tryz.underlying0
  a0 := Tryz.isAgg0
  z0 := Tryz.sizeOf0
  v0 := Tryz.zeroValue0
  t3 := Tryz.underlying3
  a3 := Tryz.isAgg3
  z3 := Tryz.sizeOf3
  v3 := Tryz.zeroValue3
  t4 := Tryz.underlying4
  a4 := Tryz.isAgg4
  z4 := Tryz.sizeOf4
  v4 := Tryz.zeroValue4
  t9 := Tryz.underlying9
  a9 := Tryz.isAgg9
  z9 := Tryz.sizeOf9
  v9 := Tryz.zeroValue9
  t31 := Tryz.underlying73
  a31 := Tryz.isAgg73
  z31 := Tryz.sizeOf73
  v31 := Tryz.zeroValue73 }
open Go.Lib in
theorem Tryz.slices_Contains_string (b off n c : Nat) (zs : List ByteArray) (x : ByteArray) (w : World) (hz : n ≤ zs.length) (hbig : n ≤ 9223372036854775807) (hc : ∀ j, j < zs.length → w.cell? ⟨b, off + j, none⟩ = some (.string (zs.getD j ByteArray.empty))) :
    Calls Tryz.prog 91 #[.slice (some ⟨b, off, none⟩) n c, .string x] w fun e w' => e = .returned (.bool (Lib.containsS (zs.take n) x)) ∧ w' = w := Any.slices_Contains_string Tryz.lays110 b off n c zs x w hz hbig hc
open Go.Lib in
theorem Tryz.slices_Contains_string_empty (a : Option Addr) (c : Nat) (x : ByteArray) (w : World) :
    Calls Tryz.prog 91 #[.slice a 0 c, .string x] w fun e w' => e = .returned (.bool false) ∧ w' = w := Any.slices_Contains_string_empty Tryz.lays110 a c x w
def Tryz.lays112_ren : Go.Shelf.Ren := ⟨fun | 112 => 84 | n => n, fun | 28 => 22 | 3 => 3 | 4 => 4 | 0 => 0 | n => n, fun | n => n⟩
theorem Tryz.lays112 : Go.Proofs.Lays.n112 Tryz.prog Tryz.lays112_ren := {
  mixed := by kernel_rfl
  f112 := Tryz.func84.trans (congrArg some (by kernel_rfl))
  t0 := Tryz.underlying0
  a0 := Tryz.isAgg0
  z0 := Tryz.sizeOf0
  v0 := Tryz.zeroValue0
  t3 := Tryz.underlying3
  a3 := Tryz.isAgg3
  z3 := Tryz.sizeOf3
  v3 := Tryz.zeroValue3
  t4 := Tryz.underlying4
  a4 := Tryz.isAgg4
  z4 := Tryz.sizeOf4
  v4 := Tryz.zeroValue4
  t28 := Tryz.underlying22
  a28 := Tryz.isAgg22
  z28 := Tryz.sizeOf22
  v28 := Tryz.zeroValue22 }
open Go.RowKit Go.Lib Go.Sort in
theorem Tryz.slices_Reverse_int (blk off cap : Nat) (zs : List Int) (w : World) (hH : Holds (Value.int .i64) w blk off zs.toArray) (hsz : zs.length ≤ 9223372036854775807) :
    Calls Tryz.prog 84 #[.slice (some ⟨blk, off, none⟩) zs.length cap] w fun e w' => e = .returned (.tuple #[]) ∧ ∃ n, w' = putRow (Value.int .i64) (Sort.ahead w n) blk off zs.reverse.toArray := Any.slices_Reverse_int Tryz.lays112 blk off cap zs w hH hsz
open Go.RowKit Go.Lib Go.Sort in
theorem Tryz.slices_Reverse_int_empty (a : Option Addr) (cap : Nat) (w : World) :
    Calls Tryz.prog 84 #[.slice a 0 cap] w fun e w' => e = .returned (.tuple #[]) ∧ w' = w := Any.slices_Reverse_int_empty Tryz.lays112 a cap w
def Tryz.laysSlM5_f83_ren : Go.Shelf.Ren := ⟨fun | 5 => 83 | 8 => 115 | 7 => 114 | 19 => 142 | 20 => 143 | 10 => 133 | 11 => 134 | 12 => 135 | 13 => 136 | 14 => 137 | 15 => 138 | 16 => 139 | 17 => 140 | 18 => 141 | 30 => 158 | 31 => 159 | 32 => 160 | 33 => 161 | 34 => 162 | 35 => 163 | 40 => 180 | n => n, fun | 23 => 22 | 25 => 3 | 3 => 3 | 32 => 118 | 22 => 22 | 0 => 0 | 44 => 151 | 46 => 154 | 4 => 4 | 36 => 168 | 35 => 167 | 41 => 116 | 5 => 5 | 9 => 9 | 53 => 186 | 57 => 190 | 63 => 207 | 64 => 49 | n => n, fun | n => n⟩
theorem Tryz.laysSlM5_f83 : Go.Proofs.SlLaysM.n5 Tryz.prog Tryz.laysSlM5_f83_ren := {
  mixed := by kernel_rfl
  f5 := ⟨Tryz.f83.name, by decide, Tryz.func83.trans (congrArg some (by kernel_rfl))⟩
  f7 := ⟨Tryz.f114.name, by decide, Tryz.func114.trans (congrArg some (by kernel_rfl))⟩
  f8 := Tryz.func115.trans (congrArg some (by kernel_rfl))
  f10 := ⟨Tryz.f133.name, by decide, Tryz.func133.trans (congrArg some (by kernel_rfl))⟩
  f11 := ⟨Tryz.f134.name, by decide, Tryz.func134.trans (congrArg some (by kernel_rfl))⟩
  f12 := ⟨Tryz.f135.name, by decide, Tryz.func135.trans (congrArg some (by kernel_rfl))⟩
  f13 := ⟨Tryz.f136.name, by decide, Tryz.func136.trans (congrArg some (by kernel_rfl))⟩
  f14 := ⟨Tryz.f137.name, by decide, Tryz.func137.trans (congrArg some (by kernel_rfl))⟩
  f15 := ⟨Tryz.f138.name, by decide, Tryz.func138.trans (congrArg some (by kernel_rfl))⟩
  f16 := ⟨Tryz.f139.name, by decide, Tryz.func139.trans (congrArg some (by kernel_rfl))⟩
  f17 := ⟨Tryz.f140.name, by decide, Tryz.func140.trans (congrArg some (by kernel_rfl))⟩
  f18 := ⟨Tryz.f141.name, by decide, Tryz.func141.trans (congrArg some (by kernel_rfl))⟩
  f19 := Tryz.func142.trans (congrArg some (by kernel_rfl))
  f20 := Tryz.func143.trans (congrArg some (by kernel_rfl))
  f30 := ⟨Tryz.f158.name, by decide, Tryz.func158.trans (congrArg some (by kernel_rfl))⟩
  f31 := Tryz.func159.trans (congrArg some (by kernel_rfl))
  f32 := Tryz.func160.trans (congrArg some (by kernel_rfl))
  f33 := ⟨Tryz.f161.name, by decide, Tryz.func161.trans (congrArg some (by kernel_rfl))⟩
  f34 := ⟨Tryz.f162.name, by decide, Tryz.func162.trans (congrArg some (by kernel_rfl))⟩
  f35 := ⟨Tryz.f163.name, by decide, Tryz.func163.trans (congrArg some (by kernel_rfl))⟩
  f40 := ⟨Tryz.f180.name, by decide, Tryz.func180.trans (congrArg some (by kernel_rfl))⟩
  t0 := Tryz.underlying0
  a0 := Tryz.isAgg0
  z0 := Tryz.sizeOf0
  v0 := Tryz.zeroValue0
  t3 := Tryz.underlying3
  a3 := Tryz.isAgg3
  z3 := Tryz.sizeOf3
  v3 := Tryz.zeroValue3
  t4 := Tryz.underlying4
  a4 := Tryz.isAgg4
  z4 := Tryz.sizeOf4
  v4 := Tryz.zeroValue4
  t5 := Tryz.underlying5
  a5 := Tryz.isAgg5
  z5 := Tryz.sizeOf5
  v5 := Tryz.zeroValue5
  t9 := Tryz.underlying9
  a9 := Tryz.isAgg9
  z9 := Tryz.sizeOf9
  v9 := Tryz.zeroValue9
  t22 := Tryz.underlying22
  a22 := Tryz.isAgg22
  z22 := Tryz.sizeOf22
  v22 := Tryz.zeroValue22
  t23 := Tryz.underlying22
  a23 := Tryz.isAgg22
  z23 := Tryz.sizeOf22
  v23 := Tryz.zeroValue22
  t25 := Tryz.underlying3
  a25 := Tryz.isAgg3
  z25 := Tryz.sizeOf3
  v25 := Tryz.zeroValue3
  t32 := Tryz.underlying118
  a32 := Tryz.isAgg118
  z32 := Tryz.sizeOf118
  v32 := Tryz.zeroValue118
  t35 := Tryz.underlying167
  a35 := Tryz.isAgg167
  z35 := Tryz.sizeOf167
  v35 := Tryz.zeroValue167
  t36 := Tryz.underlying168
  a36 := Tryz.isAgg168
  z36 := Tryz.sizeOf168
  v36 := Tryz.zeroValue168
  t41 := Tryz.underlying116
  a41 := Tryz.isAgg116
  z41 := Tryz.sizeOf116
  v41 := Tryz.zeroValue116
  t44 := Tryz.underlying151
  a44 := Tryz.isAgg151
  z44 := Tryz.sizeOf151
  v44 := Tryz.zeroValue151
  t46 := Tryz.underlying154
  a46 := Tryz.isAgg154
  z46 := Tryz.sizeOf154
  v46 := Tryz.zeroValue154
  t53 := Tryz.underlying186
  a53 := Tryz.isAgg186
  z53 := Tryz.sizeOf186
  v53 := Tryz.zeroValue186
  t57 := Tryz.underlying190
  a57 := Tryz.isAgg190
  z57 := Tryz.sizeOf190
  v57 := Tryz.zeroValue190
  t63 := Tryz.underlying207
  a63 := Tryz.isAgg207
  z63 := Tryz.sizeOf207
  v63 := Tryz.zeroValue207
  t64 := Tryz.underlying49
  a64 := Tryz.isAgg49
  z64 := Tryz.sizeOf49
  v64 := Tryz.zeroValue49 }
open Go.Sort Go.RowKit in
theorem Tryz.slices_Sort_int (blk off cap : Nat) (zs : List Int) (w : World) (hH : Holds (Value.int .i64) w blk off zs.toArray) (hblk : blk < w.heap.size) (hsz : zs.length < 4611686018427387904) :
    Calls Tryz.prog 83 #[.slice (some ⟨blk, off, none⟩) zs.length cap] w fun e w' =>
      e = .returned (.tuple #[]) ∧ ∃ n os, w' = grow (putRow (Value.int .i64) (Sort.ahead w n) blk off (zs.mergeSort fun x y => decide (x ≤ y)).toArray) os := AnyM.slices_Sort_int Tryz.laysSlM5_f83 blk off cap zs w hH hblk hsz
open Go.RowKit Go.Sort in
theorem Tryz.slices_Sort_int_none (p : Option Addr) (cap : Nat) (w : World) :
    Calls Tryz.prog 83 #[.slice p 0 cap] w fun e w' => e = .returned (.tuple #[]) ∧ w' = w := AnyM.slices_Sort_int_none Tryz.laysSlM5_f83 p cap w

end Go.Proofs
/- Words that the walks of this seat share: what is in memory, and how it stays. -/
namespace Go.Proofs.YtkpfkadjmijmlaaGreatDoor.X
open Go.RowKit

theorem ret_bool {a b : Bool} (h : a = b) : Ending.returned (.bool a) = .returned (.bool b) := by rw [h]
theorem ret_int {a b : Int} (h : a = b) : Ending.returned (.int .i64 a) = .returned (.int .i64 b) := by rw [h]
/-- Nothing but block g has changed, of what there was. -/
structure But (g : Nat) (w w' : World) : Prop where
  os : w'.os = w.os
  tape : w'.tape = w.tape
  output : w'.output = w.output
  size : w.heap.size ≤ w'.heap.size
  block : ∀ k, k < w.heap.size → k ≠ g → w'.heap[k]? = w.heap[k]?

theorem But.refl (g : Nat) (w : World) : But g w w := ⟨rfl, rfl, rfl, Nat.le_refl _, fun _ _ _ => rfl⟩
theorem But.trans {g : Nat} {a b c : World} (h : But g a b) (k : But g b c) : But g a c :=
  ⟨k.os.trans h.os, k.tape.trans h.tape, k.output.trans h.output, Nat.le_trans h.size k.size, fun i hi hg => (k.block i (Nat.lt_of_lt_of_le hi h.size) hg).trans (h.block i hi hg)⟩
theorem But.drew {g : Nat} {a w : World} (h : But g a w) : But g a w.drew := ⟨h.os, h.tape, h.output, h.size, h.block⟩
theorem But.drewN {g : Nat} {a w : World} (h : But g a w) (n : Nat) : But g a (w.drewN n) := ⟨h.os, h.tape, h.output, h.size, h.block⟩
theorem But.alloc {g : Nat} {a w : World} (h : But g a w) (o : Obj) : But g a (w.alloc o) :=
  h.trans ⟨rfl, rfl, rfl, by simp, fun k hk _ => Below.heap_alloc w o k hk⟩
theorem But.set {g : Nat} {a w : World} (h : But g a w) (j : Nat) (u : Value) : But g a (w.setCell ⟨g, j, none⟩ u) :=
  h.trans ⟨rfl, rfl, rfl, by simp, fun k _ hk => Below.heap_setCell w ⟨g, j, none⟩ u k hk⟩
theorem But.of_below {g : Nat} {w w' : World} (h : Below w.heap.size w w') : But g w w' := ⟨h.os, h.tape, h.output, h.size, fun k hk _ => h.block k hk⟩
theorem But.below {g : Nat} {w w' : World} (h : But g w w') (hg : w.heap.size ≤ g) : Below w.heap.size w w' := ⟨h.os, h.tape, h.output, h.size, fun k hk => h.block k hk (by omega)⟩

/-- A block of cells. -/
def Blk (w : World) (b : Nat) (cs : Array Value) (t : Nat) : Prop := w.heap[b]? = some (.cells cs t (0, 0))
theorem Blk.cell {w : World} {b : Nat} {cs : Array Value} {t : Nat} (h : Blk w b cs t) (i : Nat) : w.cell? ⟨b, i, none⟩ = cs[i]? := by
  unfold Blk at h; simp [World.cell?, h]
theorem Blk.free {w : World} {b : Nat} {cs : Array Value} {t : Nat} (h : Blk w b cs t) (i : Nat) : w.frozen? ⟨b, i, none⟩ = false := by
  unfold Blk at h; simp [World.frozen?, h]
theorem Blk.c0 {w : World} {b : Nat} {u : Value} {l : List Value} {t : Nat} (h : Blk w b (u :: l).toArray t) : w.cell? ⟨b, 0, none⟩ = some u ∧ w.frozen? ⟨b, 0, none⟩ = false := ⟨by rw [h.cell]; simp, h.free 0⟩
theorem Blk.c1 {w : World} {b : Nat} {u v : Value} {l : List Value} {t : Nat} (h : Blk w b (u :: v :: l).toArray t) : w.cell? ⟨b, 1, none⟩ = some v ∧ w.frozen? ⟨b, 1, none⟩ = false := ⟨by rw [h.cell]; simp, h.free 1⟩
theorem Blk.c2 {w : World} {b : Nat} {u v x : Value} {l : List Value} {t : Nat} (h : Blk w b (u :: v :: x :: l).toArray t) : w.cell? ⟨b, 2, none⟩ = some x ∧ w.frozen? ⟨b, 2, none⟩ = false := ⟨by rw [h.cell]; simp, h.free 2⟩
theorem Blk.c3 {w : World} {b : Nat} {u v x y : Value} {l : List Value} {t : Nat} (h : Blk w b (u :: v :: x :: y :: l).toArray t) : w.cell? ⟨b, 3, none⟩ = some y ∧ w.frozen? ⟨b, 3, none⟩ = false := ⟨by rw [h.cell]; simp, h.free 3⟩
theorem Blk.c4 {w : World} {b : Nat} {u v x y z : Value} {l : List Value} {t : Nat} (h : Blk w b (u :: v :: x :: y :: z :: l).toArray t) : w.cell? ⟨b, 4, none⟩ = some z ∧ w.frozen? ⟨b, 4, none⟩ = false := ⟨by rw [h.cell]; simp, h.free 4⟩
theorem Blk.lt {w : World} {b : Nat} {cs : Array Value} {t : Nat} (h : Blk w b cs t) : b < w.heap.size := by
  unfold Blk at h; exact (Array.getElem?_eq_some_iff.1 h).1
theorem Blk.drewN {w : World} {b : Nat} {cs : Array Value} {t : Nat} (h : Blk w b cs t) (n : Nat) : Blk (w.drewN n) b cs t := h
theorem Blk.drew {w : World} {b : Nat} {cs : Array Value} {t : Nat} (h : Blk w b cs t) : Blk w.drew b cs t := h
theorem Blk.alloc {w : World} {b : Nat} {cs : Array Value} {t : Nat} (h : Blk w b cs t) (o : Obj) : Blk (w.alloc o) b cs t := (Below.heap_alloc w o b h.lt).trans h
theorem Blk.below {w w' : World} {b : Nat} {cs : Array Value} {t : Nat} (h : Blk w b cs t) (hb : Below w.heap.size w w') : Blk w' b cs t := (hb.block b h.lt).trans h
theorem Blk.but {w w' : World} {b g : Nat} {cs : Array Value} {t : Nat} (h : Blk w b cs t) (hb : But g w w') (hg : b ≠ g) : Blk w' b cs t := (hb.block b h.lt hg).trans h
theorem Blk.set {w : World} {b : Nat} {cs : Array Value} {t : Nat} (h : Blk w b cs t) (j : Nat) (u : Value) : Blk (w.setCell ⟨b, j, none⟩ u) b (cs.setIfInBounds j u) t := by
  unfold Blk at h ⊢
  simp [World.setCell, Array.getElem?_modify, h]
theorem Blk.far {w : World} {b : Nat} {cs : Array Value} {t : Nat} (h : Blk w b cs t) {p : Addr} (hp : b ≠ p.block) (u : Value) : Blk (w.setCell p u) b cs t := (Below.heap_setCell w p u b hp).trans h
theorem Blk.new (w : World) (cs : Array Value) (t : Nat) : Blk (w.alloc (.cells cs t)) w.heap.size cs t := by
  unfold Blk; simp [World.alloc, -World.alloc_eq]

/-- KINDS: x of a type reads as the cells cs in w; the blocks that these lead to are ok. -/
structure Kn (α : Type) where
  sz : Nat
  V : World → (Nat → Prop) → α → List Value → Prop
  pos : 0 < sz
  len : ∀ {w ok x cs}, V w ok x cs → cs.length = sz
  one : ∀ {w ok x cs}, V w ok x cs → ∀ u ∈ cs, u.oneCell' = true
  mono : ∀ {w ok ok' x cs}, (∀ k, ok k → ok' k) → V w ok x cs → V w ok' x cs
  move : ∀ {w w1 : World} {ok : Nat → Prop} {x cs}, (∀ k, ok k → w1.heap[k]? = w.heap[k]?) → V w ok x cs → V w1 ok x cs
  bound : ∀ {w : World} {ok : Nat → Prop} {x cs}, V w ok x cs → V w (fun k => ok k ∧ k < w.heap.size) x cs

section
variable {α β : Type} {d : Kn α} {w w1 : World} {ok ok' : Nat → Prop} {A : Option Addr} {xs : List α} {cs : List Value} {x : α}

theorem Kn.step (h : d.V w ok x cs) (hm : ∀ k, ok k → k < w.heap.size → w1.heap[k]? = w.heap[k]?) : d.V w1 ok x cs :=
  d.mono (fun _ hk => hk.1) (d.move (fun k hk => hm k hk.1 hk.2) (d.bound h))
theorem Kn.below (h : d.V w ok x cs) (hb : Below w.heap.size w w1) : d.V w1 ok x cs := Kn.step h fun k _ hk => hb.block k hk
theorem Kn.but {g : Nat} (h : d.V w ok x cs) (hb : But g w w1) (hg : ¬ ok g) : d.V w1 ok x cs := Kn.step h fun k ho hk => hb.block k hk (by rintro rfl; exact hg ho)

/-- A row of elements behind A. -/
def Row (d : Kn α) (w : World) (ok : Nat → Prop) (A : Option Addr) (xs : List α) : Prop :=
  xs.length ≤ 140737488355328 ∧ (0 < xs.length → ∃ ad, A = some ad ∧ ok ad.block ∧ ∀ j p, xs[j]? = some p → ∃ cs, d.V w ok p cs ∧ ∀ i u, cs[i]? = some u → w.cell? (ad.add (j * d.sz + i)) = some u)
theorem Row.nil (A : Option Addr) : Row d w ok A [] := ⟨by simp, fun h => absurd h (Nat.lt_irrefl 0)⟩
theorem add_block (a : Addr) (j : Nat) : (a.add j).block = a.block := by unfold Addr.add; split <;> rfl
theorem cell_some_lt {w : World} {a : Addr} {v : Value} (h : w.cell? a = some v) : a.block < w.heap.size := World.block_lt_of_cell? w a h
theorem Row.mono (h : Row d w ok A xs) (ho : ∀ k, ok k → ok' k) : Row d w ok' A xs :=
  ⟨h.1, fun hn => by
    obtain ⟨ad, e, h1, h2⟩ := h.2 hn
    refine ⟨ad, e, ho _ h1, fun j p hj => ?_⟩
    obtain ⟨cs, h3, h4⟩ := h2 j p hj
    exact ⟨cs, d.mono ho h3, h4⟩⟩
theorem Row.move (h : Row d w ok A xs) (hm : ∀ k, ok k → w1.heap[k]? = w.heap[k]?) : Row d w1 ok A xs :=
  ⟨h.1, fun hn => by
    obtain ⟨ad, e, h1, h2⟩ := h.2 hn
    refine ⟨ad, e, h1, fun j p hj => ?_⟩
    obtain ⟨cs, h3, h4⟩ := h2 j p hj
    exact ⟨cs, d.move hm h3, fun i u hu => (World.cell?_of_block (by rw [add_block]; exact hm _ h1)).trans (h4 i u hu)⟩⟩
theorem Row.bound (h : Row d w ok A xs) : Row d w (fun k => ok k ∧ k < w.heap.size) A xs :=
  ⟨h.1, fun hn => by
    obtain ⟨ad, e, h1, h2⟩ := h.2 hn
    have hlt : ad.block < w.heap.size := by
      obtain ⟨cs, h3, h4⟩ := h2 0 _ (List.getElem?_eq_getElem hn)
      have hl := d.len h3
      have := cell_some_lt (h4 0 _ (List.getElem?_eq_getElem (by have := d.pos; omega)))
      rwa [add_block] at this
    refine ⟨ad, e, ⟨h1, hlt⟩, fun j p hj => ?_⟩
    obtain ⟨cs, h3, h4⟩ := h2 j p hj
    exact ⟨cs, d.bound h3, h4⟩⟩
theorem Row.step (h : Row d w ok A xs) (hm : ∀ k, ok k → k < w.heap.size → w1.heap[k]? = w.heap[k]?) : Row d w1 ok A xs :=
  (h.bound.move (fun k hk => hm k hk.1 hk.2)).mono (fun _ hk => hk.1)
theorem Row.below (h : Row d w ok A xs) (hb : Below w.heap.size w w1) : Row d w1 ok A xs := h.step fun k _ hk => hb.block k hk
theorem Row.but {g : Nat} (h : Row d w ok A xs) (hb : But g w w1) (hg : ¬ ok g) : Row d w1 ok A xs := h.step fun k ho hk => hb.block k hk (by rintro rfl; exact hg ho)
theorem Row.drewN (h : Row d w ok A xs) (n : Nat) : Row d (w.drewN n) ok A xs := h.move fun _ _ => rfl
theorem Row.alloc (h : Row d w ok A xs) (o : Obj) : Row d (w.alloc o) ok A xs := h.step fun k _ hk => Below.heap_alloc w o k hk
theorem Row.get (h : Row d w ok A xs) {j : Nat} (hj : j < xs.length) : ∃ ad cs, A = some ad ∧ ok ad.block ∧ d.V w ok xs[j] cs ∧ ∀ i u, cs[i]? = some u → w.cell? (ad.add (j * d.sz + i)) = some u := by
  obtain ⟨ad, e, h1, h2⟩ := h.2 (by omega)
  obtain ⟨cs, h3, h4⟩ := h2 j _ (List.getElem?_eq_getElem hj)
  exact ⟨ad, cs, e, h1, h3, h4⟩
theorem Row.take (h : Row d w ok A xs) (n : Nat) : Row d w ok A (xs.take n) :=
  ⟨by have := h.1; rw [List.length_take]; omega, fun hn => by
    rw [List.length_take] at hn
    obtain ⟨ad, e, h1, h2⟩ := h.2 (by omega)
    refine ⟨ad, e, h1, fun j p hj => ?_⟩
    rw [List.getElem?_take] at hj
    split at hj
    · exact h2 j p hj
    · cases hj⟩

/-- One cell a value. -/
def scal {α : Type} (enc : α → Value) (h1 : ∀ x, (enc x).oneCell' = true) : Kn α where
  sz := 1
  V := fun _ _ x cs => cs = [enc x]
  pos := by decide
  len := fun h => by rw [h]; rfl
  one := fun h u hu => by rw [h] at hu; rw [List.mem_singleton.1 hu]; exact h1 _
  mono := fun _ h => h
  move := fun _ h => h
  bound := fun h => h
def kInt : Kn Int := scal (Value.int .i64) (fun _ => rfl)
def kStr : Kn ByteArray := scal Value.string (fun _ => rfl)
def kBool : Kn Bool := scal Value.bool (fun _ => rfl)
theorem Row.cell_scal {enc : α → Value} {h1 : ∀ x, (enc x).oneCell' = true} (h : Row (scal enc h1) w ok A xs) {j : Nat} (hj : j < xs.length) : ∃ ad, A = some ad ∧ ok ad.block ∧ w.cell? (ad.add j) = some (enc xs[j]) := by
  obtain ⟨ad, cs, e, ho, hv, hc⟩ := h.get hj
  cases hv
  refine ⟨ad, e, ho, ?_⟩
  simpa [scal] using hc 0 _ rfl
/-- A literal of one-cell values. -/
theorem Row.lit_scal {enc : α → Value} {h1 : ∀ x, (enc x).oneCell' = true} {b t : Nat} {c : Array Value} (xs : List α) (hb : Blk w b c t) (hc : c.toList = xs.map enc) (ho : ok b) (hl : xs.length ≤ 140737488355328) : Row (scal enc h1) w ok (some ⟨b, 0, none⟩) xs :=
  ⟨hl, fun _ => ⟨_, rfl, ho, fun j p hj => ⟨_, rfl, fun i u hu => by
    have hi : i = 0 ∧ u = enc p := by
      rcases i with _ | i
      · simpa [eq_comm] using hu
      · simp at hu
    obtain ⟨rfl, rfl⟩ := hi
    have e : ((⟨b, 0, none⟩ : Addr).add (j * (scal enc h1).sz + 0)) = ⟨b, j, none⟩ := by
      simp [scal, Addr.add]
      intro h; exact h.symm
    rw [e, hb.cell, ← Array.getElem?_toList, hc, List.getElem?_map, hj]
    rfl⟩⟩⟩
theorem Row.plain {enc : α → Value} {h1 : ∀ x, (enc x).oneCell' = true} (h : Row (scal enc h1) w ok A xs) (hn : 0 < xs.length) (z : α) : ∃ b off, A = some ⟨b, off, none⟩ ∧ ok b ∧ ∀ j, j < xs.length → w.cell? ⟨b, off + j, none⟩ = some (enc (xs.getD j z)) := by
  obtain ⟨ad, e, ho, h0⟩ := h.cell_scal hn
  obtain ⟨b, off, sp⟩ := ad
  have hs : sp = none := by
    cases sp with
    | none => rfl
    | some q => simp [World.cell?, Addr.add] at h0; split at h0 <;> simp at h0
  subst hs
  refine ⟨b, off, e, ho, fun j hj => ?_⟩
  obtain ⟨ad', e', _, hj'⟩ := h.cell_scal hj
  rw [e] at e'
  injection e' with e'
  subst e'
  have : ((⟨b, off, none⟩ : Addr).add j) = ⟨b, off + j, none⟩ := by unfold Addr.add; split <;> simp_all
  rw [this] at hj'
  rw [hj', List.getD_eq_getElem?_getD, List.getElem?_eq_getElem hj]
  rfl
/-- Element j: where it begins, its cells in the walk's spelling. -/
theorem Row.at_ (h : Row d w ok A xs) {j : Nat} (hj : j < xs.length) : ∃ ad cs, A = some ad ∧ ok ad.block ∧ d.V w ok xs[j] cs ∧ (∀ u, cs[0]? = some u → w.cell? (ad.add (j * d.sz)) = some u) ∧ ∀ i u, cs[i + 1]? = some u → w.cell? ⟨(ad.add (j * d.sz)).block, (ad.add (j * d.sz)).off + (i + 1), none⟩ = some u := by
  obtain ⟨ad, cs, e, ho, hv, hc⟩ := h.get hj
  refine ⟨ad, cs, e, ho, hv, fun u hu => hc 0 u hu, fun i u hu => ?_⟩
  have h1 := hc (i + 1) u hu
  have h2 : ad.add (j * d.sz + (i + 1)) = ⟨(ad.add (j * d.sz)).block, (ad.add (j * d.sz)).off + (i + 1), none⟩ := by
    unfold Addr.add
    rw [if_neg (by omega)]
    split
    · simp
    · simp [Nat.add_assoc]
  rw [h2] at h1
  exact h1
/-- Two in line. -/
def pair {α β : Type} (a : Kn α) (b : Kn β) : Kn (α × β) where
  sz := a.sz + b.sz
  V := fun w ok x cs => ∃ c0 c1, cs = c0 ++ c1 ∧ a.V w ok x.1 c0 ∧ b.V w ok x.2 c1
  pos := by have := a.pos; omega
  len := by rintro w ok x cs ⟨c0, c1, rfl, h0, h1⟩; rw [List.length_append, a.len h0, b.len h1]
  one := by
    rintro w ok x cs ⟨c0, c1, rfl, h0, h1⟩ u hu
    rcases List.mem_append.1 hu with hu | hu
    · exact a.one h0 u hu
    · exact b.one h1 u hu
  mono := by rintro w ok ok' x cs hk ⟨c0, c1, rfl, h0, h1⟩; exact ⟨c0, c1, rfl, a.mono hk h0, b.mono hk h1⟩
  move := by rintro w w1 ok x cs hk ⟨c0, c1, rfl, h0, h1⟩; exact ⟨c0, c1, rfl, a.move hk h0, b.move hk h1⟩
  bound := by rintro w ok x cs ⟨c0, c1, rfl, h0, h1⟩; exact ⟨c0, c1, rfl, a.bound h0, b.bound h1⟩
def iso {α β : Type} (d : Kn α) (f : β → α) : Kn β where
  sz := d.sz
  V := fun w ok x cs => d.V w ok (f x) cs
  pos := d.pos
  len := d.len
  one := d.one
  mono := d.mono
  move := d.move
  bound := d.bound
def slice {α : Type} (d : Kn α) : Kn (List α) where
  sz := 1
  V := fun w ok xs cs => ∃ A c, cs = [.slice A xs.length c] ∧ xs.length ≤ c ∧ Row d w ok A xs
  pos := by decide
  len := by rintro w ok x cs ⟨A, c, rfl, _⟩; rfl
  one := by rintro w ok x cs ⟨A, c, rfl, _⟩ u hu; rw [List.mem_singleton.1 hu]; rfl
  mono := by rintro w ok ok' x cs hk ⟨A, c, rfl, h, r⟩; exact ⟨A, c, rfl, h, r.mono hk⟩
  move := by rintro w w1 ok x cs hk ⟨A, c, rfl, h, r⟩; exact ⟨A, c, rfl, h, r.move hk⟩
  bound := by rintro w ok x cs ⟨A, c, rfl, h, r⟩; exact ⟨A, c, rfl, h, r.bound⟩
end

/-! Rows of the call's own. -/
def Reps {α : Type} (R : α → List Value → Prop) (size : Nat) (ps : List α) (cs : List Value) : Prop :=
  cs.length = ps.length * size ∧ ∀ j p, ps[j]? = some p → R p ((cs.drop (j * size)).take size)
theorem Reps.none {α : Type} (R : α → List Value → Prop) (size : Nat) : Reps R size [] [] := ⟨by simp, fun j p h => by simp at h⟩
theorem Reps.snoc {α : Type} {R : α → List Value → Prop} {size : Nat} {ps : List α} {cs c : List Value} {p : α} (h : Reps R size ps cs) (hp : R p c) (hc : c.length = size) : Reps R size (ps ++ [p]) (cs ++ c) := by
  refine ⟨by rw [List.length_append, h.1, hc, List.length_append, List.length_singleton, Nat.add_mul, Nat.one_mul], fun j q hq => ?_⟩
  rcases Nat.lt_or_ge j ps.length with hj | hj
  · rw [List.getElem?_append_left hj] at hq
    have h1 : j * size + size ≤ cs.length := by rw [h.1, ← Nat.succ_mul]; exact Nat.mul_le_mul_right _ hj
    have h2 := h.2 j q hq
    rw [List.drop_append_of_le_length (by omega), List.take_append_of_le_length (by rw [List.length_drop]; omega)]
    exact h2
  · have hj' : j = ps.length := by
      have := (List.getElem?_eq_some_iff.1 hq).1
      rw [List.length_append, List.length_singleton] at this
      omega
    subst hj'
    have hq' : p = q := by simpa using hq
    subst hq'
    rw [← h.1, List.drop_left, ← hc, List.take_length]
    exact hp
theorem Reps.imp {α : Type} {R R' : α → List Value → Prop} {size : Nat} {ps : List α} {cs : List Value} (h : Reps R size ps cs) (hR : ∀ p c, R p c → R' p c) : Reps R' size ps cs := ⟨h.1, fun j p hj => hR _ _ (h.2 j p hj)⟩
theorem own_base {w : World} {base : Nat} {e : TypeId} {size n : Nat} {v : Value} {xs : List Value} (h : w.ownsRow base e size v n xs) (k : Nat) (hk : v.ownBlock = some k) : base ≤ k := by
  rcases h.2 with ⟨rfl, _⟩ | ⟨g, cap, cur, rfl, hb, _⟩
  · simp [Value.ownBlock] at hk
  · have : g = k := by simpa [Value.ownBlock] using hk
    omega
theorem own_lt {w : World} {base : Nat} {e : TypeId} {size n : Nat} {v : Value} {xs : List Value} (h : w.ownsRow base e size v n xs) (k : Nat) (hk : v.ownBlock = some k) : k < w.heap.size := by
  rcases h.2 with ⟨rfl, _⟩ | ⟨g, cap, cur, rfl, hb, hh, _⟩
  · simp [Value.ownBlock] at hk
  · have : g = k := by simpa [Value.ownBlock] using hk
    subst this
    exact (Array.getElem?_eq_some_iff.1 hh).1
theorem own_move {w w1 : World} {base : Nat} {e : TypeId} {size n : Nat} {v : Value} {xs : List Value} (h : w.ownsRow base e size v n xs) (hm : ∀ k, v.ownBlock = some k → w1.heap[k]? = w.heap[k]?) : w1.ownsRow base e size v n xs := by
  obtain ⟨h1, h2⟩ := h
  refine ⟨h1, ?_⟩
  rcases h2 with h2 | ⟨g, cap, cur, rfl, hg, hh, r⟩
  · exact .inl h2
  · exact .inr ⟨g, cap, cur, rfl, hg, (hm g (by simp [Value.ownBlock])).trans hh, r⟩
/-- v is a row (elements of type e) in a block of its own, from base on. -/
def Own {α : Type} (d : Kn α) (e : Nat) (w : World) (base : Nat) (ok : Nat → Prop) (v : Value) (xs : List α) : Prop :=
  xs.length ≤ 140737488355328 ∧ (∀ k, v.ownBlock = some k → ok k) ∧ ∃ inner, w.ownsRow base e d.sz v xs.length inner ∧ Reps (d.V w (fun k => ok k ∧ some k ≠ v.ownBlock)) d.sz xs inner
section
variable {α : Type} {d : Kn α} {e : Nat} {w w1 : World} {base : Nat} {ok ok' : Nat → Prop} {v : Value} {xs : List α}
theorem Own.nil (w : World) (base : Nat) : Own d e w base ok (.slice none 0 0) [] := ⟨by simp, by simp [Value.ownBlock], [], ⟨by simp, .inl ⟨rfl, rfl⟩⟩, Reps.none _ _⟩
theorem Own.mono (h : Own d e w base ok v xs) (ho : ∀ k, ok k → ok' k) : Own d e w base ok' v xs := by
  obtain ⟨h1, h2, inner, h3, h4⟩ := h
  exact ⟨h1, fun k hk => ho k (h2 k hk), inner, h3, h4.imp fun _ _ hp => d.mono (fun k hk => ⟨ho k hk.1, hk.2⟩) hp⟩
theorem Own.step (h : Own d e w base ok v xs) (hm : ∀ k, ok k → k < w.heap.size → w1.heap[k]? = w.heap[k]?) : Own d e w1 base ok v xs := by
  obtain ⟨h1, h2, inner, h3, h4⟩ := h
  exact ⟨h1, h2, inner, own_move h3 fun k hk => hm k (h2 k hk) (own_lt h3 k hk), h4.imp fun _ _ hp => Kn.step hp fun k hk => hm k hk.1⟩
theorem Own.below (h : Own d e w base ok v xs) (hb : Below w.heap.size w w1) : Own d e w1 base ok v xs := h.step fun k _ hk => hb.block k hk
theorem Own.but {g : Nat} (h : Own d e w base ok v xs) (hb : But g w w1) (hg : ¬ ok g) : Own d e w1 base ok v xs := h.step fun k ho hk => hb.block k hk (by rintro rfl; exact hg ho)
theorem Own.drewN (h : Own d e w base ok v xs) (n : Nat) : Own d e (w.drewN n) base ok v xs := h.step fun _ _ _ => rfl
theorem Own.alloc (h : Own d e w base ok v xs) (o : Obj) : Own d e (w.alloc o) base ok v xs := h.step fun k _ hk => Below.heap_alloc w o k hk
theorem Own.far (h : Own d e w base ok v xs) {p : Addr} (hp : ¬ ok p.block) (u : Value) : Own d e (w.setCell p u) base ok v xs := h.step fun k ho _ => Below.heap_setCell w p u k (by rintro rfl; exact hp ho)
theorem Own.row (h : Own d e w base ok v xs) : ∃ A c, v = .slice A xs.length c ∧ xs.length ≤ c ∧ Row d w ok A xs := by
  obtain ⟨h1, h2, inner, ⟨h5, h6⟩, h4⟩ := h
  rcases h6 with ⟨rfl, hn⟩ | ⟨g, cap, cur, rfl, hg, hh, hnc, hcm, hcs, htk⟩
  · exact ⟨none, 0, by rw [hn], by omega, by omega, fun h => by omega⟩
  · refine ⟨some ⟨g, 0, none⟩, cap, rfl, hnc, h1, fun hn => ⟨_, rfl, h2 g rfl, fun j p hj => ⟨_, d.mono (fun _ hk => hk.1) (h4.2 j p hj), fun i u hu => ?_⟩⟩⟩
    have e1 : ((⟨g, 0, none⟩ : Addr).add (j * d.sz + i)) = ⟨g, j * d.sz + i, none⟩ := by
      unfold Addr.add; split <;> simp_all
    have hi : i < d.sz := by
      have := (List.getElem?_eq_some_iff.1 hu).1
      rw [List.length_take] at this
      omega
    rw [List.getElem?_take, if_pos hi, List.getElem?_drop, ← htk, List.getElem?_take] at hu
    split at hu
    · rw [e1, show w.cell? ⟨g, j * d.sz + i, none⟩ = cur[j * d.sz + i]? by simp [World.cell?, hh], ← Array.getElem?_toList]
      exact hu
    · cases hu
theorem Own.base_le (h : Own d e w base ok v xs) : Own d e w base (fun k => ok k ∧ k < w.heap.size) v xs := by
  obtain ⟨h1, h2, inner, h3, h4⟩ := h
  exact ⟨h1, fun k hk => ⟨h2 k hk, own_lt h3 k hk⟩, inner, h3, h4.imp fun _ _ hp => d.mono (fun k hk => ⟨⟨hk.1.1, hk.2⟩, hk.1.2⟩) (d.bound hp)⟩
end
/-- What an append leaves. -/
theorem own_appended {α : Type} {d : Kn α} {e base : Nat} {ok : Nat → Prop} {W w1 : World} {v v1 : Value} {xs : List α} {p : α} {cs : List Value} {inner : List Value} (hl : xs.length + 1 ≤ 140737488355328) (h0 : ∀ k, v.ownBlock = some k → ok k) (hr : Reps (d.V W (fun k => ok k ∧ some k ≠ v.ownBlock)) d.sz xs inner)
    (hp : d.V W (fun k => ok k ∧ some k ≠ v.ownBlock) p cs) (hfresh : ∀ k, W.heap.size ≤ k → ok k)
    (hown : w1.ownsRow base e d.sz v1 (xs.length + 1) (inner ++ cs)) (hg : W.grownBy w1 v.ownBlock) (hat : v1.ownBlock = v.ownBlock ∨ ∃ b, v1.ownBlock = some b ∧ W.heap.size ≤ b) : Own d e w1 base ok v1 (xs ++ [p]) := by
  have hne : ∀ k, some k ≠ v.ownBlock → k < W.heap.size → some k ≠ v1.ownBlock := by
    intro k hk hlt
    rcases hat with hat | ⟨b, hb, hle⟩
    · rw [hat]; exact hk
    · rw [hb]
      intro he
      injection he with he
      omega
  have step : ∀ {q : α} {c : List Value}, d.V W (fun k => ok k ∧ some k ≠ v.ownBlock) q c → d.V w1 (fun k => ok k ∧ some k ≠ v1.ownBlock) q c := by
    intro q c hq
    have h1 := d.move (w1 := w1) (fun k hk => hg.block k hk.2 hk.1.2) (d.bound hq)
    exact d.mono (fun k hk => ⟨hk.1.1, hne k hk.1.2 hk.2⟩) h1
  refine ⟨by simpa using hl, fun k hk => ?_, inner ++ cs, by rw [List.length_append, List.length_singleton]; exact hown, ?_⟩
  · rcases hat with hat | ⟨b, hb, hle⟩
    · exact h0 k (hat ▸ hk)
    · rw [hb] at hk
      injection hk with hk
      exact hfresh k (by omega)
  · exact (hr.imp fun _ _ hq => step hq).snoc (step hp) (d.len hp)
section
variable {P : Program} {ops : Array Oper} {rest : List Oper} {o : Oper} {a : Act} {Q : Exit → Act → World → Prop} {α : Type}
/-- append(v, x), behind 'at_builtin'; the goal's world is 'W.alloc' of the variadic's box; x's cells are cs. -/
theorem own_append {d : Kn α} {W : World} {base t e : Nat} {s x : Operand} {z : Value} {bytes : Nat} {v : Value} {xs : List α} {ok : Nat → Prop}
    (HO : Own d e W base ok v xs) (p : α) (cs : List Value) (hp : d.V W (fun k => ok k ∧ some k ≠ v.ownBlock) p cs) (hfresh : ∀ k, W.heap.size ≤ k → ok k) (hbase : base ≤ W.heap.size)
    (ht : P.underlying t = some (.slice e)) (hinfo : (P.info? e).map (fun i => (i.zero, i.size, i.bytes)) = some (some z, d.sz, bytes)) (hz : z.cells.size = d.sz) (hb0 : 0 < bytes) (hl : (xs.length + 1) * bytes ≤ 140737488355328)
    (hgd : o.guard = none) (ho : o.op = .call { callee := .builtin .append, args := #[s, x], argTypes := #[t, t] })
    (hs : a.eval s = v) (hx : a.eval x = .slice (some ⟨W.heap.size, 0, none⟩) 1 1)
    (h : ∀ v1 w1, Own d e w1 base ok v1 (xs ++ [p]) → W.grownBy w1 v.ownBlock → (v1.ownBlock = v.ownBlock ∨ ∃ b, v1.ownBlock = some b ∧ W.heap.size ≤ b) → wpList P ops Q rest (a.put o.dst v1) w1) :
    wpList P ops Q (o :: rest) a (W.alloc (.cells cs.toArray e)) := by
  obtain ⟨_, h0, inner, hown, hr⟩ := HO
  obtain ⟨i0, hi, hzz⟩ := Option.map_eq_some_iff.1 hinfo
  simp only [Prod.mk.injEq] at hzz
  obtain ⟨hz0, hz1, hz2⟩ := hzz
  have hlen : xs.length + 1 ≤ 140737488355328 := Nat.le_trans (Nat.le_mul_of_pos_right _ hb0) hl
  refine wpList_append_own_at (W.alloc (.cells cs.toArray e)) hgd s x t ho base e i0 z d.sz bytes ht hi hz0 hz1 hz2 hz d.pos v xs.length inner hs (own_move hown fun k hk => Below.heap_alloc W _ k (own_lt hown k hk)) ⟨W.heap.size, 0, none⟩ 1 1 cs hx (by rw [d.len hp]; simp)
    (by simpa using World.news_of_block (cs := cs.toArray) (t := e) (fr := (0, 0)) (heap_alloc_new W (.cells cs.toArray e))) (d.one hp) (by simp only [maxLen]; omega) hl (by simp; omega) ?_
  intro v1 w1 hown1 hg _ hat
  have hg' := World.grownBy.trans (World.grownBy_alloc W _ _) hg
  have hat' : v1.ownBlock = v.ownBlock ∨ ∃ b, v1.ownBlock = some b ∧ W.heap.size ≤ b := by
    rcases hat with hat | hat
    · exact .inl hat
    · exact .inr ⟨_, hat, by simp⟩
  exact h v1 w1 (own_appended hlen h0 hr hp hfresh hown1 hg' hat') hg' hat'
end

/-- A store into a block that is newer than w0 leaves what was readable at w0. -/
theorem cell_old {w0 w : World} {a : Addr} {v : Value} (h : w0.cell? a = some v) (hB : Below w0.heap.size w0 w) {p : Addr} (hp : w0.heap.size ≤ p.block) (u : Value) : (w.setCell p u).cell? a = some v :=
  ((hB.setCell hp u).cell (cell_some_lt h)).trans h

/-- What Stream is at block g: its list came in by w0; at most m numbers have been drawn. -/
def St (w0 w : World) (g m : Nat) : Prop := w0.heap.size ≤ g ∧ ∃ A c xs, ∃ at_ : Nat, at_ ≤ m ∧ Blk w g #[.slice A xs.length c, .int .i64 at_] 25 ∧ xs.length ≤ c ∧ Row kInt w0 (fun _ => True) A xs
theorem St.more {w0 w : World} {g m m' : Nat} (h : St w0 w g m) (hm : m ≤ m') : St w0 w g m' := by
  obtain ⟨hg, A, c, xs, at_, ha, r⟩ := h
  exact ⟨hg, A, c, xs, at_, by omega, r⟩
theorem St.below {w0 w w' : World} {g m : Nat} (h : St w0 w g m) (hb : Below w.heap.size w w') : St w0 w' g m := by
  obtain ⟨hg, A, c, xs, at_, ha, r, r'⟩ := h
  exact ⟨hg, A, c, xs, at_, ha, r.below hb, r'⟩
theorem St.but {w0 w w' : World} {g b m : Nat} (h : St w0 w g m) (hb : But b w w') (hg : g ≠ b) : St w0 w' g m := by
  obtain ⟨hg, A, c, xs, at_, ha, r, r'⟩ := h
  exact ⟨hg, A, c, xs, at_, ha, r.but hb ‹_›, r'⟩
theorem St.alloc {w0 w : World} {g m : Nat} (h : St w0 w g m) (o : Obj) : St w0 (w.alloc o) g m := h.below ((Below.refl _ _).alloc (Nat.le_refl _) o)
theorem St.keep {w0 w w' : World} {g m : Nat} (h : St w0 w g m) (hB : Below w0.heap.size w0 w) (hk : But g w w') : Below w0.heap.size w0 w' :=
  hB.trans ⟨hk.os, hk.tape, hk.output, hk.size, fun k hk' => hk.block k (Nat.lt_of_lt_of_le hk' hB.size) (by have := h.1; omega)⟩
theorem below_al {w0 w : World} (h : Below w0.heap.size w0 w) (o : Obj) : Below w0.heap.size w0 (w.alloc o) := h.alloc h.size o
theorem St.lt {w0 w : World} {g m : Nat} (h : St w0 w g m) : g < w.heap.size := by
  obtain ⟨hg, A, c, xs, at_, ha, r, r'⟩ := h
  exact r.lt
section
variable {α : Type} {d : Kn α} {e : Nat} {w : World} {base : Nat} {ok : Nat → Prop} {v : Value} {xs : List α}
theorem Own.head (h : Own d e w base ok v xs) (hn : 0 < xs.length) : ∃ b c, v = .slice (some ⟨b, 0, none⟩) xs.length c ∧ base ≤ b ∧ ok b ∧ xs.length ≤ c ∧ b < w.heap.size ∧ (∀ i, w.frozen? ⟨b, i, none⟩ = false) ∧ ∀ i, i < xs.length * d.sz → ∃ u, w.cell? ⟨b, i, none⟩ = some u := by
  obtain ⟨h1, h2, inner, ⟨h5, h6⟩, h4⟩ := h
  rcases h6 with ⟨rfl, hn'⟩ | ⟨g, cap, cur, rfl, hg, hh, hnc, hcm, hcs, htk⟩
  · omega
  · refine ⟨g, cap, rfl, hg, h2 g rfl, hnc, (Array.getElem?_eq_some_iff.1 hh).1, fun i => by simp [World.frozen?, hh], fun i hi => ?_⟩
    have : i < cur.size := by
      rw [hcs]
      exact Nat.lt_of_lt_of_le hi (Nat.mul_le_mul_right _ hnc)
    exact ⟨cur[i], by simp [World.cell?, hh, this]⟩
theorem Own.set {b n c : Nat} (h : Own d e w base ok (.slice (some ⟨b, 0, none⟩) n c) xs) {j i : Nat} (hj : j < xs.length) (hi : i < d.sz) (u : Value) (p : α)
    (hp : ∀ cs, d.V w (fun k => ok k ∧ some k ≠ some b) xs[j] cs → d.V w (fun k => ok k ∧ some k ≠ some b) p (cs.set i u)) : Own d e (w.setCell ⟨b, j * d.sz + i, none⟩ u) base ok (.slice (some ⟨b, 0, none⟩) n c) (xs.set j p) := by
  obtain ⟨h1, h2, inner, ⟨h5, h6⟩, h4⟩ := h
  rcases h6 with ⟨hv, hn⟩ | ⟨g, cap, cur, hv, hg, hh, hnc, hcm, hcs, htk⟩
  · cases hv
  · have e1 : b = g ∧ n = xs.length ∧ c = cap := by simpa using hv
    obtain ⟨rfl, rfl, rfl⟩ := e1
    have hlt : j * d.sz + i < xs.length * d.sz := by
      have : (j + 1) * d.sz ≤ xs.length * d.sz := Nat.mul_le_mul_right _ hj
      rw [Nat.add_mul, Nat.one_mul] at this
      omega
    have hblk : (w.setCell ⟨b, j * d.sz + i, none⟩ u).heap[b]? = some (.cells (cur.setIfInBounds (j * d.sz + i) u) e (0, 0)) := by
      simp [World.setCell, Array.getElem?_modify, hh]
    refine ⟨by simpa using h1, h2, inner.set (j * d.sz + i) u, ⟨by simpa using h5, .inr ⟨b, c, _, by simp, hg, hblk, by simpa using hnc, hcm, by simpa using hcs, ?_⟩⟩, by simpa using h4.1, fun k q hk => ?_⟩
    · rw [List.length_set, Array.toList_setIfInBounds, List.take_set, htk]
    · have far : ∀ {q : α} {l : List Value}, d.V w (fun k => ok k ∧ some k ≠ some b) q l → d.V (w.setCell ⟨b, j * d.sz + i, none⟩ u) (fun k => ok k ∧ some k ≠ some b) q l := fun hq =>
        Kn.step hq fun k hk _ => Below.heap_setCell w _ u k (fun e => hk.2 (by rw [e]))
      rw [List.getElem?_set] at hk
      have hil : inner.length = xs.length * d.sz := h5
      by_cases hkj : j = k
      · subst hkj
        rw [if_pos rfl, if_pos hj] at hk
        have hq : p = q := by simpa using hk
        subst hq
        have h7 := hp _ (h4.2 j _ (List.getElem?_eq_getElem hj))
        have h8 : ((inner.set (j * d.sz + i) u).drop (j * d.sz)).take d.sz = ((inner.drop (j * d.sz)).take d.sz).set i u := by
          rw [List.drop_set, if_neg (by omega), List.take_set]
          congr 1
          omega
        rw [h8]
        exact far h7
      · rw [if_neg hkj] at hk
        have h7 := h4.2 k _ hk
        have h8 : ((inner.set (j * d.sz + i) u).drop (k * d.sz)).take d.sz = (inner.drop (k * d.sz)).take d.sz := by
          apply List.ext_getElem?
          intro m
          rw [List.getElem?_take, List.getElem?_take]
          split
          · rw [List.getElem?_drop, List.getElem?_drop, List.getElem?_set, if_neg]
            intro e
            rcases Nat.lt_or_gt_of_ne hkj with hlt | hgt
            · have : (j + 1) * d.sz ≤ k * d.sz := Nat.mul_le_mul_right _ hlt
              rw [Nat.add_mul, Nat.one_mul] at this
              omega
            · have : (k + 1) * d.sz ≤ j * d.sz := Nat.mul_le_mul_right _ hgt
              rw [Nat.add_mul, Nat.one_mul] at this
              omega
          · rfl
        rw [h8]
        exact far h7
end
theorem Own.at_ {α : Type} {d : Kn α} {e : Nat} {w : World} {base : Nat} {ok : Nat → Prop} {xs : List α} {b n c : Nat} (h : Own d e w base ok (.slice (some ⟨b, 0, none⟩) n c) xs) {i : Nat} (hi : i < xs.length * d.sz) : (∃ u, w.cell? ⟨b, i, none⟩ = some u) ∧ w.frozen? ⟨b, i, none⟩ = false := by
  have hn : 0 < xs.length := by
    rcases Nat.eq_zero_or_pos xs.length with h0 | h0
    · rw [h0, Nat.zero_mul] at hi; omega
    · exact h0
  obtain ⟨b', c', e', _, _, _, _, hf, hc⟩ := h.head hn
  obtain ⟨rfl, rfl, rfl⟩ : b = b' ∧ n = xs.length ∧ c = c' := by simpa using e'
  exact ⟨hc i hi, hf i⟩
theorem Own.set1 {α : Type} {enc : α → Value} {h1 : ∀ x, (enc x).oneCell' = true} {e : Nat} {w : World} {base : Nat} {ok : Nat → Prop} {xs : List α} {b n c : Nat} (h : Own (scal enc h1) e w base ok (.slice (some ⟨b, 0, none⟩) n c) xs) {j : Nat} (hj : j < xs.length) (p : α) : Own (scal enc h1) e (w.setCell ⟨b, j, none⟩ (enc p)) base ok (.slice (some ⟨b, 0, none⟩) n c) (xs.set j p) := by
  have := h.set hj (i := 0) (by simp [scal]) (enc p) p (fun cs hv => by
    have : cs = [enc xs[j]] := hv
    subst this
    rfl)
  simpa [scal] using this
/-- A store into a row that is newer than base. -/
theorem But.setO {g : Nat} {w W : World} (h : But g w W) {p : Addr} (hp : w.heap.size ≤ p.block) (u : Value) : But g w (W.setCell p u) :=
  ⟨h.os, h.tape, h.output, by simpa using h.size, fun k hk hkg => (Below.heap_setCell W p u k (by omega)).trans (h.block k hk hkg)⟩
theorem St.far {w0 w : World} {g m : Nat} (h : St w0 w g m) {p : Addr} (hp : g ≠ p.block) (u : Value) : St w0 (w.setCell p u) g m := by
  obtain ⟨h0, A, c, xs, at_, ha, r, r'⟩ := h
  exact ⟨h0, A, c, xs, at_, ha, r.far hp u, r'⟩
theorem Blk.grown {w w1 : World} {b : Nat} {cs : Array Value} {t : Nat} (h : Blk w b cs t) {row : Option Nat} (hg : w.grownBy w1 row) (hne : some b ≠ row) : Blk w1 b cs t := (hg.block b h.lt hne).trans h
theorem St.grown {w0 w w1 : World} {g m : Nat} (h : St w0 w g m) {row : Option Nat} (hg : w.grownBy w1 row) (hne : some g ≠ row) : St w0 w1 g m := by
  obtain ⟨h0, A, c, xs, at_, ha, r, r'⟩ := h
  exact ⟨h0, A, c, xs, at_, ha, r.grown hg hne, r'⟩
theorem Own.base {α : Type} {d : Kn α} {e : Nat} {w : World} {base : Nat} {ok : Nat → Prop} {v : Value} {xs : List α} (h : Own d e w base ok v xs) (k : Nat) (hk : v.ownBlock = some k) : base ≤ k := by
  obtain ⟨h1, h2, inner, h3, h4⟩ := h
  exact own_base h3 k hk
theorem But.grown {g : Nat} {w W w1 : World} (h : But g w W) {row : Option Nat} (hg : W.grownBy w1 row) (hb : ∀ k, row = some k → w.heap.size ≤ k) : But g w w1 :=
  ⟨hg.os.trans h.os, hg.tape.trans h.tape, hg.output.trans h.output, Nat.le_trans h.size hg.size, fun k hk hkg =>
    (hg.block k (Nat.lt_of_lt_of_le hk h.size) fun e => by have := hb k e.symm; omega).trans (h.block k hk hkg)⟩
theorem ne_own {α : Type} {d : Kn α} {e g : Nat} {w : World} {base : Nat} {v : Value} {xs : List α} (h : Own d e w base (· ≠ g) v xs) : some g ≠ v.ownBlock := fun e => h.2.1 g e.symm rfl
theorem infoInt : (Tryz.prog.info? 3).map (fun i => (i.zero, i.size, i.bytes)) = some (some (.int .i64 0), 1, 8) := by kernel_rfl

/-- Nothing but the blocks of S has changed, of what there was. -/
structure Ch (S : Nat → Prop) (w w' : World) : Prop where
  os : w'.os = w.os
  tape : w'.tape = w.tape
  output : w'.output = w.output
  size : w.heap.size ≤ w'.heap.size
  block : ∀ k, k < w.heap.size → ¬ S k → w'.heap[k]? = w.heap[k]?
theorem Ch.refl (S : Nat → Prop) (w : World) : Ch S w w := ⟨rfl, rfl, rfl, Nat.le_refl _, fun _ _ _ => rfl⟩
theorem Ch.trans' {S S' : Nat → Prop} {a b c : World} (h : Ch S a b) (k : Ch S' b c) (hS : ∀ i, i < a.heap.size → S' i → S i) : Ch S a c :=
  ⟨k.os.trans h.os, k.tape.trans h.tape, k.output.trans h.output, Nat.le_trans h.size k.size, fun i hi hg => (k.block i (Nat.lt_of_lt_of_le hi h.size) (fun e => hg (hS i hi e))).trans (h.block i hi hg)⟩
theorem Ch.trans {S : Nat → Prop} {a b c : World} (h : Ch S a b) (k : Ch S b c) : Ch S a c := h.trans' k fun _ _ e => e
theorem Ch.mono {S S' : Nat → Prop} {a b : World} (h : Ch S a b) (hS : ∀ i, i < a.heap.size → S i → S' i) : Ch S' a b := ⟨h.os, h.tape, h.output, h.size, fun k hk hn => h.block k hk fun e => hn (hS k hk e)⟩
theorem Ch.drewN {S : Nat → Prop} {a w : World} (h : Ch S a w) (n : Nat) : Ch S a (w.drewN n) := ⟨h.os, h.tape, h.output, h.size, h.block⟩
theorem Ch.of_below {S : Nat → Prop} {w w' : World} (h : Below w.heap.size w w') : Ch S w w' := ⟨h.os, h.tape, h.output, h.size, fun k hk _ => h.block k hk⟩
theorem Ch.below {S : Nat → Prop} {w w' : World} (h : Ch S w w') (hS : ∀ k, k < w.heap.size → ¬ S k) : Below w.heap.size w w' := ⟨h.os, h.tape, h.output, h.size, fun k hk => h.block k hk (hS k hk)⟩
theorem Ch.low {S : Nat → Prop} {B : Nat} {w w' : World} (h : Ch S w w') (hB : B ≤ w.heap.size) (hS : ∀ k, k < B → ¬ S k) : Below B w w' := ⟨h.os, h.tape, h.output, h.size, fun k hk => h.block k (Nat.lt_of_lt_of_le hk hB) (hS k hk)⟩
theorem Ch.alloc {S : Nat → Prop} {a w : World} (h : Ch S a w) (o : Obj) : Ch S a (w.alloc o) :=
  h.trans (Ch.of_below ((Below.refl _ _).alloc (Nat.le_refl _) o))
theorem Ch.set {S : Nat → Prop} {a w : World} (h : Ch S a w) {p : Addr} (hp : S p.block ∨ a.heap.size ≤ p.block) (u : Value) : Ch S a (w.setCell p u) :=
  h.trans' (S' := fun k => k = p.block) ⟨rfl, rfl, rfl, by simp, fun k _ hk => Below.heap_setCell w p u k hk⟩ fun i hi e => by
    subst e
    rcases hp with hp | hp
    · exact hp
    · omega
theorem Ch.grown {S : Nat → Prop} {a w w1 : World} (h : Ch S a w) {row : Option Nat} (hg : w.grownBy w1 row) (hr : ∀ k, row = some k → S k ∨ a.heap.size ≤ k) : Ch S a w1 :=
  h.trans' (S' := fun k => row = some k) ⟨hg.os, hg.tape, hg.output, hg.size, fun k hk hn => hg.block k hk fun e => hn e.symm⟩ fun i hi e => by
    rcases hr i e with h | h
    · exact h
    · omega
theorem Ch.of_but {g : Nat} {S : Nat → Prop} {w w' : World} (h : But g w w') (hS : S g) : Ch S w w' := ⟨h.os, h.tape, h.output, h.size, fun k hk hn => h.block k hk fun e => hn (e ▸ hS)⟩
theorem Ch.but {g : Nat} {S : Nat → Prop} {w w' : World} (h : Ch S w w') (hS : ∀ k, k < w.heap.size → S k → k = g) : But g w w' := ⟨h.os, h.tape, h.output, h.size, fun k hk hn => h.block k hk fun e => hn (hS k hk e)⟩
theorem Blk.ch {w w' : World} {b : Nat} {cs : Array Value} {t : Nat} {S : Nat → Prop} (h : Blk w b cs t) (hb : Ch S w w') (hn : ¬ S b) : Blk w' b cs t := (hb.block b h.lt hn).trans h
theorem Row.ch {α : Type} {d : Kn α} {w w1 : World} {ok : Nat → Prop} {A : Option Addr} {xs : List α} {S : Nat → Prop} (h : Row d w ok A xs) (hb : Ch S w w1) (hn : ∀ k, ok k → ¬ S k) : Row d w1 ok A xs := h.step fun k ho hk => hb.block k hk (hn k ho)

/-- A row of numbers in a block of its own, from base on. -/
def NRow (w : World) (base : Nat) (v : Value) (xs : List Nat) : Prop := w.ownsRow base 3 1 v xs.length (xs.map fun n : Nat => Value.int .i64 n)
theorem NRow.nil (w : World) (base : Nat) : NRow w base (.slice none 0 0) [] := ⟨rfl, .inl ⟨rfl, rfl⟩⟩
theorem NRow.lt {w : World} {base : Nat} {v : Value} {xs : List Nat} (h : NRow w base v xs) (k : Nat) (hk : v.ownBlock = some k) : k < w.heap.size := own_lt h k hk
theorem NRow.base {w : World} {base : Nat} {v : Value} {xs : List Nat} (h : NRow w base v xs) (k : Nat) (hk : v.ownBlock = some k) : base ≤ k := own_base h k hk
theorem NRow.move {w w1 : World} {base : Nat} {v : Value} {xs : List Nat} (h : NRow w base v xs) (hm : ∀ k, v.ownBlock = some k → w1.heap[k]? = w.heap[k]?) : NRow w1 base v xs := own_move h hm
theorem NRow.ch {w w1 : World} {base : Nat} {v : Value} {xs : List Nat} {S : Nat → Prop} (h : NRow w base v xs) (hc : Ch S w w1) (hn : ∀ k, v.ownBlock = some k → ¬ S k) : NRow w1 base v xs := h.move fun k hk => hc.block k (h.lt k hk) (hn k hk)
theorem NRow.ne {w : World} {base : Nat} {v : Value} {xs : List Nat} (h : NRow w base v xs) {b : Nat} {cs : Array Value} {t : Nat} (hb : Blk w b cs t) (ht : t ≠ 3) (k : Nat) (hk : v.ownBlock = some k) : k ≠ b := by
  rintro rfl
  rcases h.2 with ⟨rfl, _⟩ | ⟨g, cap, cur, rfl, _, hh, _⟩
  · simp [Value.ownBlock] at hk
  · have : g = k := by simpa [Value.ownBlock] using hk
    subst this
    unfold Blk at hb
    rw [hb] at hh
    injection hh with hh
    injection hh with _ he
    exact ht he
theorem NRow.slice {w : World} {base : Nat} {v : Value} {xs : List Nat} (h : NRow w base v xs) : ∃ A c, v = .slice A xs.length c ∧ xs.length ≤ c := by
  rcases h.2 with ⟨rfl, hn⟩ | ⟨g, cap, cur, rfl, _, _, hc, _⟩
  · exact ⟨none, 0, by rw [hn], by omega⟩
  · exact ⟨_, cap, rfl, hc⟩
def kNat : Kn Nat := scal (fun n : Nat => Value.int .i64 n) (fun _ => rfl)
theorem NRow.row {w : World} {base : Nat} {v : Value} {xs : List Nat} (h : NRow w base v xs) (hl : xs.length ≤ 140737488355328) : ∃ A c, v = .slice A xs.length c ∧ xs.length ≤ c ∧ Row kNat w (fun k => v.ownBlock = some k) A xs := by
  rcases h.2 with ⟨rfl, hn⟩ | ⟨g, cap, cur, rfl, _, hh, hc, _, hcs, htk⟩
  · have : xs = [] := List.eq_nil_of_length_eq_zero hn
    subst this
    exact ⟨none, 0, rfl, by simp, Row.nil _⟩
  · refine ⟨_, cap, rfl, hc, hl, fun hn => ⟨_, rfl, rfl, fun j p hj => ⟨_, rfl, fun i u hu => ?_⟩⟩⟩
    have hi : i = 0 ∧ u = .int .i64 p := by
      rcases i with _ | i
      · simpa [eq_comm] using hu
      · simp at hu
    obtain ⟨rfl, rfl⟩ := hi
    have e1 : ((⟨g, 0, none⟩ : Addr).add (j * kNat.sz + 0)) = ⟨g, j, none⟩ := by
      simp [kNat, scal, Addr.add]
      intro h; exact h.symm
    have hjl : j < xs.length := (List.getElem?_eq_some_iff.1 hj).1
    have hx : cur.toList[j]? = some (.int .i64 p) := by
      have h2 : (cur.toList.take (xs.length * 1))[j]? = some (.int .i64 p) := by rw [htk, List.getElem?_map, hj]; rfl
      rw [List.getElem?_take, if_pos (by omega)] at h2
      exact h2
    rw [e1, show w.cell? ⟨g, j, none⟩ = cur[j]? by simp [World.cell?, hh], ← Array.getElem?_toList]
    exact hx
section
variable {P : Program} {ops : Array Oper} {rest : List Oper} {o : Oper} {a : Act} {Q : Exit → Act → World → Prop}
/-- append(v, ys..), ys a literal of numbers: behind 'at_builtin'; the goal's world is 'W.alloc' of the literal. -/
theorem nrow_append {W : World} {base t m : Nat} {s x : Operand} {v : Value} {xs : List Nat} (HO : NRow W base v xs) (ys : List Nat) (cs : List Value) (hcs : cs = ys.map fun n : Nat => Value.int .i64 n) (hm : ys.length = m) (hbase : base ≤ W.heap.size)
    (ht : P.underlying t = some (.slice 3)) (hinfo : (P.info? 3).map (fun i => (i.zero, i.size, i.bytes)) = some (some (.int .i64 0), 1, 8)) (hl : (xs.length + m) * 8 ≤ 140737488355328)
    (hgd : o.guard = none) (ho : o.op = .call { callee := .builtin .append, args := #[s, x], argTypes := #[t, t] })
    (hs : a.eval s = v) (hx : a.eval x = .slice (some ⟨W.heap.size, 0, none⟩) m m)
    (h : ∀ v1 w1, NRow w1 base v1 (xs ++ ys) → W.grownBy w1 v.ownBlock → (v1.ownBlock = v.ownBlock ∨ ∃ b, v1.ownBlock = some b ∧ W.heap.size ≤ b) → wpList P ops Q rest (a.put o.dst v1) w1) :
    wpList P ops Q (o :: rest) a (W.alloc (.cells cs.toArray 3)) := by
  obtain ⟨i0, hi, hzz⟩ := Option.map_eq_some_iff.1 hinfo
  simp only [Prod.mk.injEq] at hzz
  obtain ⟨hz0, hz1, hz2⟩ := hzz
  subst hcs hm
  refine wpList_append_own_at (W.alloc (.cells (ys.map fun n : Nat => Value.int .i64 n).toArray 3)) hgd s x t ho base 3 i0 (.int .i64 0) 1 8 ht hi hz0 hz1 hz2 rfl (by decide) v xs.length _ hs (own_move HO fun k hk => Below.heap_alloc W _ k (own_lt HO k hk)) ⟨W.heap.size, 0, none⟩ ys.length ys.length (ys.map fun n : Nat => Value.int .i64 n) hx (by simp)
    (by simpa using World.news_of_block (cs := (ys.map fun n : Nat => Value.int .i64 n).toArray) (t := 3) (fr := (0, 0)) (heap_alloc_new W (.cells (ys.map fun n : Nat => Value.int .i64 n).toArray 3))) (by intro u hu; obtain ⟨n, _, rfl⟩ := List.mem_map.1 hu; rfl) (by simp only [maxLen]; omega) hl (by simp; omega) ?_
  intro v1 w1 hown1 hg _ hat
  refine h v1 w1 (by unfold NRow; rw [List.length_append, List.map_append]; exact hown1) (World.grownBy.trans (World.grownBy_alloc W _ _) hg) ?_
  rcases hat with hat | hat
  · exact .inl hat
  · exact .inr ⟨_, hat, by simp⟩
end

/-- A whole struct is stored. -/
def setsW (w : World) (b : Nat) : Nat → List Value → World
  | _, [] => w
  | i, v :: l => setsW (w.setCell ⟨b, i, none⟩ v) b (i + 1) l
def setsA (c : Array Value) : Nat → List Value → Array Value
  | _, [] => c
  | i, v :: l => setsA (c.setIfInBounds i v) (i + 1) l
theorem setsA_get (l : List Value) : ∀ (c : Array Value) (i j : Nat), (setsA c i l)[j]? = if i ≤ j ∧ j < i + l.length ∧ j < c.size then l[j - i]? else c[j]? := by
  induction l with
  | nil => intro c i j; simp [setsA]; omega
  | cons v l ih =>
    intro c i j
    rw [setsA, ih, Array.getElem?_setIfInBounds, Array.size_setIfInBounds, List.length_cons]
    by_cases h1 : i + 1 ≤ j ∧ j < i + 1 + l.length ∧ j < c.size
    · rw [if_pos h1, if_pos ⟨by omega, by omega, h1.2.2⟩, show j - i = (j - (i + 1)) + 1 by omega, List.getElem?_cons_succ]
    · rw [if_neg h1]
      by_cases h2 : i = j
      · subst h2
        by_cases h3 : i < c.size
        · rw [if_pos rfl, if_pos h3, if_pos ⟨by omega, by omega, h3⟩]; simp
        · rw [if_pos rfl, if_neg h3, if_neg (by omega), Array.getElem?_eq_none (by omega)]
      · rw [if_neg h2, if_neg (by omega)]
theorem Blk.setsW {b t : Nat} (l : List Value) : ∀ {w : World} {c : Array Value} (i : Nat), Blk w b c t → Blk (setsW w b i l) b (setsA c i l) t := by
  induction l with
  | nil => intro w c i h; exact h
  | cons v l ih => intro w c i h; exact ih (i + 1) (h.set i v)
theorem Blk.stored {w : World} {b t : Nat} {c : Array Value} (h : Blk w b c t) (l : List Value) (hl : c.size = l.length) : Blk (X.setsW w b 0 l) b l.toArray t := by
  have h1 := Blk.setsW l 0 h
  have e : setsA c 0 l = l.toArray := by
    apply Array.ext_getElem?
    intro j
    rw [setsA_get]
    split
    · simp
    · rw [Array.getElem?_eq_none (by omega), Array.getElem?_eq_none (by simp; omega)]
  rw [e] at h1
  exact h1
theorem Ch.setsW {S : Nat → Prop} {b : Nat} (l : List Value) : ∀ {a w : World} (i : Nat), Ch S a w → (S b ∨ a.heap.size ≤ b) → Ch S a (setsW w b i l) := by
  induction l with
  | nil => intro a w i h _; exact h
  | cons v l ih => intro a w i h hb; exact ih (i + 1) (h.set (p := ⟨b, i, none⟩) hb v) hb
end Go.Proofs.YtkpfkadjmijmlaaGreatDoor.X
/- Checks of names and numbers, walked. -/
namespace Go.Proofs.YtkpfkadjmijmlaaGreatDoor.X
open Go.RowKit

theorem ixb_calls (s : ByteArray) (c : UInt8) (w : World) : Calls Tryz.prog 90 #[.string s, .int .u8 c.toNat] w fun e w' => ∃ k : Int, e = .returned (.int .i64 k) ∧ k = Lib.indexByte s.data.toList c ∧ w = w' := by
  refine (Tryz.strings_IndexByte s c.toNat w).mono ?_
  rintro e w' ⟨rfl, rfl⟩
  exact ⟨_, rfl, by simp, rfl⟩
theorem trim_calls (s c : ByteArray) (w : World) (hs : s.size ≤ 140737488355328) (hc : c.size < 4294967281) (ha : c.data.toList.all (fun b => decide (b.toNat < 128)) = true) :
    Calls Tryz.prog 117 #[.string s, .string c] w fun e w' => e = .returned (.string ⟨(Lib.trimS s.data.toList c.data.toList).toArray⟩) ∧ Below w.heap.size w w' :=
  Any.strings_Trim_laid Tryz.lays160 (by kernel_rfl) s c w (by omega) hc (fun j b hb => by
    have := List.all_eq_true.1 ha b (List.mem_of_getElem? hb)
    simpa using this)
theorem in_calls (n a b : Int) (w : World) : Calls Tryz.prog 53 #[.int .i64 n, .int .i64 a, .int .i64 b] w fun e w' => e = .returned (.bool (decide (a ≤ n ∧ n ≤ b))) ∧ w = w' := by
  by_cases h1 : a ≤ n <;> by_cases h2 : n ≤ b
  all_goals
    go_enter Tryz.func53, Tryz.ntmps53
    go_wp2
    go_ret
    exact ⟨by simp [h1, h2], rfl⟩
theorem in1_calls (n a b : Int) (w : World) : Calls Tryz.prog 82 #[.int .i64 n, .int .i64 a, .int .i64 b] w fun e w' => e = .returned (.bool (decide (a ≤ n ∧ n ≤ b))) ∧ w = w' := by
  by_cases h1 : a ≤ n <;> by_cases h2 : n ≤ b
  all_goals
    go_enter Tryz.func82, Tryz.ntmps82
    go_wp2
    go_ret
    exact ⟨by simp [h1, h2], rfl⟩
theorem outside_calls (n a b : Int) (w : World) : Calls Tryz.prog 86 #[.int .i64 n, .int .i64 a, .int .i64 b] w fun e w' => e = .returned (.bool (!decide (a ≤ n ∧ n ≤ b))) ∧ w = w' := by
  by_cases h1 : a ≤ n <;> by_cases h2 : n ≤ b
  all_goals
    go_enter Tryz.func86, Tryz.ntmps86
    go_wp2
    go_ret
    exact ⟨ret_bool (by simp [h1, h2]), rfl⟩
theorem isWord_calls (s : ByteArray) (w : World) : Calls Tryz.prog 116 #[.string s] w fun e w' => e = .returned (.bool (isWordL s.data.toList)) ∧ w = w' := by
  go_enter Tryz.func116, Tryz.ntmps116
  go_wp2
  all_goals
    go_ret
    refine ⟨ret_bool ?_, rfl⟩
    simp only [ByteArray.toList_eq] at *
    unfold isWordL
    simp [*]

theorem nameB_size {s : ByteArray} (h : ¬ (1 ≤ s.size ∧ s.size ≤ 40)) : nameB s = false := by
  have : s.data.toList.length = s.size := rfl
  unfold nameB nameL; rw [this, decide_eq_false h]; rfl
set_option maxHeartbeats 1000000 in
theorem isName_calls (s : ByteArray) (w : World) : Calls Tryz.prog 87 #[.string s] w fun e w' => e = .returned (.bool (nameB s)) ∧ Below w.heap.size w w' := by
  by_cases h0 : s.size = 0
  · have e0 : s.toList = [] := by rw [ByteArray.toList_eq]; exact List.eq_nil_of_length_eq_zero h0
    have hn := Lib.hid (nameB_size (s := s) (by omega))
    clear h0
    go_enter Tryz.func87, Tryz.ntmps87
    go_wp2_with fail
    go_ret
    exact ⟨ret_bool hn.out.symm, Below.refl _ _⟩
  · have e0 : ¬ s.toList = [] := by rw [ByteArray.toList_eq]; intro e; exact h0 (by have := congrArg List.length e; simpa using this)
    have hp : 0 < s.size := by omega
    clear h0
    go_enter Tryz.func87, Tryz.ntmps87
    go_wp2_with (first
      | (go_at_call 116; go_must (refine (isWord_calls _ _).mono ?_; rintro e w' ⟨rfl, rfl⟩))
      | (go_at_call 90; go_must (refine (ixb_calls _ _ _).mono ?_; rintro e w' ⟨k, rfl, hk, rfl⟩; have Hk := Lib.hid hk; clear hk))
      | (go_at_call 117; go_must (refine (trim_calls _ _ _ (by omega) (by decide) (by decide)).mono ?_; rintro e w' ⟨rfl, hb⟩)))
    · go_ret
      exact ⟨ret_bool (by rw [nameB_eq _ hp]; simp [*]), Below.refl _ _⟩
    · go_ret
      have h1 := (small_iff Hk.out).1 ‹_›
      have h2 : s.toList.isEmpty = false := by simpa using e0
      refine ⟨ret_bool ?_, hb⟩
      rw [nameB_eq _ hp, h1, h2, decide_eq_true (by omega), Bool.eq_false_iff.2 ‹¬isWordL s.data.toList = true›]
      rfl
    · go_ret
      have h1 : smalls.contains s[0] = false := Bool.eq_false_iff.2 (mt (small_iff Hk.out).2 (by omega))
      refine ⟨ret_bool ?_, Below.refl _ _⟩
      rw [nameB_eq _ hp, h1]; simp
    · go_ret
      refine ⟨ret_bool ?_, Below.refl _ _⟩
      rw [nameB_eq _ hp, decide_eq_false (by omega)]; rfl

theorem contains_calls (A : Option Addr) (xs : List ByteArray) (c : Nat) (x : ByteArray) (w : World) (h : Row kStr w (fun _ => True) A xs) :
    Calls Tryz.prog 91 #[.slice A xs.length c, .string x] w fun e w' => e = .returned (.bool (Lib.containsS xs x)) ∧ w = w' := by
  rcases Nat.eq_zero_or_pos xs.length with h0 | h0
  · have : xs = [] := List.eq_nil_of_length_eq_zero h0
    subst this
    refine (Tryz.slices_Contains_string_empty A c x w).mono ?_
    rintro e w' ⟨rfl, rfl⟩
    exact ⟨ret_bool (by simp [Lib.containsS, Lib.idxOfS, Lib.idxFromS]), rfl⟩
  · obtain ⟨b, off, rfl, -, hc⟩ := h.plain h0 ByteArray.empty
    refine (Tryz.slices_Contains_string b off xs.length c xs x w (Nat.le_refl _) (by have := h.1; omega) hc).mono ?_
    rintro e w' ⟨rfl, rfl⟩
    exact ⟨by rw [List.take_length], rfl⟩
def notName : List ByteArray := [⟨#[112, 114, 111, 99]⟩, ⟨#[109, 97, 105, 110]⟩, ⟨#[105, 102]⟩, ⟨#[101, 108, 115, 101]⟩]
theorem notName_iff (s : ByteArray) : Lib.containsS notName s = isWordL s.data.toList := by
  rw [Bool.eq_iff_iff, Lib.containsS_iff]
  have e : ∀ l : List UInt8, s = ⟨l.toArray⟩ ↔ s.data.toList = l := fun l => ⟨fun h => by rw [h], fun h => by rw [← h]⟩
  simp only [notName, List.mem_cons, List.not_mem_nil, or_false]
  rw [show (#[112, 114, 111, 99] : Array UInt8) = [112, 114, 111, 99].toArray from rfl, show (#[109, 97, 105, 110] : Array UInt8) = [109, 97, 105, 110].toArray from rfl, show (#[105, 102] : Array UInt8) = [105, 102].toArray from rfl, show (#[101, 108, 115, 101] : Array UInt8) = [101, 108, 115, 101].toArray from rfl, e, e, e, e]
  simp [isWordL, or_assoc]
theorem notName_calls (b t : Nat) (s : ByteArray) (w : World) (h : Blk w b #[.string ⟨#[112, 114, 111, 99]⟩, .string ⟨#[109, 97, 105, 110]⟩, .string ⟨#[105, 102]⟩, .string ⟨#[101, 108, 115, 101]⟩] t) :
    Calls Tryz.prog 91 #[.slice (some ⟨b, 0, none⟩) 4 4, .string s] w fun e w' => e = .returned (.bool (isWordL s.data.toList)) ∧ w = w' := by
  refine (contains_calls _ notName 4 s w (Row.lit_scal _ h rfl trivial (by decide))).mono ?_
  rintro e w' ⟨rfl, rfl⟩
  exact ⟨by rw [notName_iff], rfl⟩
theorem nameB_small {s : ByteArray} (h1 : 1 ≤ s.size) (h2 : s.size ≤ 40) : nameB s = (!isWordL s.data.toList && smalls.contains (s.data.toList.headD 0) && s.data.toList.all (wordBytes.contains ·)) := by
  have : s.data.toList.length = s.size := rfl
  unfold nameB nameL; rw [this, decide_eq_true ⟨h1, h2⟩]; rfl
theorem head_at (s : ByteArray) (h : 0 < s.size) : s.data.toList.headD 0 = s[0] := by
  have h1 : s.data.toList[0]? = some s[0] := by rw [Array.getElem?_toList]; exact Array.getElem?_eq_getElem _
  cases e : s.data.toList with
  | nil => rw [e] at h1; cases h1
  | cons a l => rw [e] at h1; simpa using h1
theorem take_all_snoc {p : UInt8 → Bool} (s : ByteArray) {j : Nat} (hj : j < s.size) : (s.data.toList.take (j + 1)).all p = ((s.data.toList.take j).all p && p s[j]) := by
  have hj' : j < s.data.toList.length := hj
  rw [List.take_succ_eq_append_getElem hj', List.all_append, List.all_cons, List.all_nil, Bool.and_true]
  rfl
set_option maxHeartbeats 1000000 in
theorem name_calls (s : ByteArray) (w : World) : Calls Tryz.prog 52 #[.string s] w fun e w' => e = .returned (.bool (nameB s)) ∧ Below w.heap.size w w' := by
  by_cases hz : 1 ≤ s.size ∧ s.size ≤ 40
  · have hp : 0 < s.size := hz.1
    have hq : s.size ≤ 40 := hz.2
    have hd : decide ((1 : Int) ≤ s.size ∧ (s.size : Int) ≤ 40) = true := by simp; omega
    have hm := Lib.hid (nameB_small hz.1 hz.2)
    have hh := Lib.hid (head_at s hp)
    clear hz
    by_cases hsm : smalls.contains s[0] = true
    · have Hsm := Lib.hid hsm
      clear hsm
      cases hw : isWordL s.data.toList
      · go_enter Tryz.func52, Tryz.ntmps52
        go_wp2_with (first
          | (go_at_call 53; go_must (refine (in_calls _ _ _ _).mono ?_; rintro e w' ⟨rfl, rfl⟩))
          | (go_at_call 90; go_must (refine (ixb_calls _ _ _).mono ?_; rintro e w' ⟨k, rfl, hk, rfl⟩; have hk' := (small_iff hk).2 Hsm.out; clear hk))
          | (go_at_call 91; go_must (refine (notName_calls _ _ _ _ (Blk.new _ _ _)).mono ?_; rintro e w' ⟨rfl, rfl⟩)))
        go_loopg [3, 21] s.size (fun kq v i W => ∃ j : Nat, i = .int .i64 j ∧ Hid (kq + j = s.size ∧ (s.data.toList.take j).all (wordBytes.contains ·) = true ∧ Below w.heap.size w W))
        case atStart => exact ⟨0, rfl, Lib.hid ⟨by omega, by simp, (Below.refl _ _).alloc (Nat.le_refl _) _⟩⟩
        case round =>
          obtain ⟨j, rfl, H⟩ := hrel
          by_cases hj : j < s.size
          · by_cases hb : wordBytes.contains s[j] = true
            · have Hb := Lib.hid hb
              clear hb
              go_wp2_with (go_at_call 90; go_must (refine (ixb_calls _ _ _).mono ?_; rintro e w' ⟨k2, rfl, hk2, rfl⟩; have hk2' := (word_iff hk2).2 Hb.out; clear hk2))
              go_roundg (gk - 1)
              case measure => have := H.out.1; omega
              case rel => exact ⟨j + 1, by go_num, Lib.hid ⟨by have := H.out.1; omega, by rw [take_all_snoc s hj, H.out.2.1, Hb.out]; rfl, H.out.2.2⟩⟩
            · have Hb := Lib.hid hb
              clear hb
              go_wp2_with (go_at_call 90; go_must (refine (ixb_calls _ _ _).mono ?_; rintro e w' ⟨k2, rfl, hk2, rfl⟩; have hk2' : k2 < 0 := Int.not_le.1 (fun h => Hb.out ((word_iff hk2).1 h)); clear hk2))
              go_ret
              refine ⟨ret_bool ?_, H.out.2.2⟩
              rw [hm.out]
              have : s.data.toList.all (wordBytes.contains ·) = false := by
                rw [← Bool.not_eq_true]
                intro h
                exact Hb.out (List.all_eq_true.1 h _ (by exact Array.getElem_mem_toList _))
              rw [this, Bool.and_false]
          · go_wp2_with fail
            go_ret
            refine ⟨ret_bool ?_, H.out.2.2⟩
            have hj' : j = s.size := by have := H.out.1; omega
            have ha := H.out.2.1
            rw [List.take_of_length_le (by rw [hj']; exact Nat.le_refl _)] at ha
            rw [hm.out, hh.out, ha, Hsm.out, hw]; rfl
      · go_enter Tryz.func52, Tryz.ntmps52
        go_wp2_with (first
          | (go_at_call 53; go_must (refine (in_calls _ _ _ _).mono ?_; rintro e w' ⟨rfl, rfl⟩))
          | (go_at_call 90; go_must (refine (ixb_calls _ _ _).mono ?_; rintro e w' ⟨k, rfl, hk, rfl⟩; have hk' := (small_iff hk).2 Hsm.out; clear hk))
          | (go_at_call 91; go_must (refine (notName_calls _ _ _ _ (Blk.new _ _ _)).mono ?_; rintro e w' ⟨rfl, rfl⟩)))
        go_ret
        exact ⟨ret_bool (by rw [hm.out, hw]; rfl), (Below.refl _ _).alloc (Nat.le_refl _) _⟩
    · have Hsm := Lib.hid hsm
      clear hsm
      go_enter Tryz.func52, Tryz.ntmps52
      go_wp2_with (first
        | (go_at_call 53; go_must (refine (in_calls _ _ _ _).mono ?_; rintro e w' ⟨rfl, rfl⟩))
        | (go_at_call 90; go_must (refine (ixb_calls _ _ _).mono ?_; rintro e w' ⟨k, rfl, hk, rfl⟩; have hk' : k < 0 := Int.not_le.1 (fun h => Hsm.out ((small_iff hk).1 h)); clear hk)))
      go_ret
      exact ⟨ret_bool (by rw [hm.out, hh.out, Bool.eq_false_iff.2 Hsm.out, Bool.and_false, Bool.false_and]), Below.refl _ _⟩
  · have hd : decide ((1 : Int) ≤ s.size ∧ (s.size : Int) ≤ 40) = false := by simp; omega
    have hn := Lib.hid (nameB_size hz)
    clear hz
    go_enter Tryz.func52, Tryz.ntmps52
    go_wp2_with (go_at_call 53; go_must (refine (in_calls _ _ _ _).mono ?_; rintro e w' ⟨rfl, rfl⟩))
    go_ret
    exact ⟨ret_bool hn.out.symm, Below.refl _ _⟩
end Go.Proofs.YtkpfkadjmijmlaaGreatDoor.X
/- Expressions, in plain words. -/
namespace Go.Proofs.YtkpfkadjmijmlaaGreatDoor.X
open Go

inductive Ex where
  | mk (op n : Int) (name : ByteArray) (args : List Ex)
def Ex.op : Ex → Int | .mk o _ _ _ => o
def Ex.n : Ex → Int | .mk _ n _ _ => n
def Ex.name : Ex → ByteArray | .mk _ _ s _ => s
def Ex.args : Ex → List Ex | .mk _ _ _ a => a
def arityF (op : Int) : Int := if ¬ (1 ≤ op ∧ op ≤ 9) then -1 else if op ≤ 2 then 0 else if op = 8 then 1 else if op = 9 then 3 else 2
/-- What is wrong with an expression's own parts. -/
def exOwn (x : Ex) (d : Int) : Int :=
  if 20 < d then 2 else if arityF x.op < 0 then 4 else
  if (x.args.length : Int) ≠ arityF x.op ∨ (x.op ≠ 1 ∧ x.n ≠ 0) ∨ (x.op ≠ 2 ∧ x.name.toList ≠ []) then 3 else
  if ¬ (0 ≤ x.n ∧ x.n ≤ 999) then 1 else if x.op = 2 ∧ nameB x.name = false then 5 else 0
mutual
def exF : Ex → Int → Int
  | .mk o n s a, d => if exOwn (.mk o n s a) d = 0 then exsF a (d + 1) else exOwn (.mk o n s a) d
def exsF : List Ex → Int → Int
  | [], _ => 0
  | x :: r, d => if exF x d = 0 then exsF r d else exF x d
end
theorem exF_eq (x : Ex) (d : Int) : exF x d = if exOwn x d = 0 then exsF x.args (d + 1) else exOwn x d := by
  cases x
  rw [exF]
  rfl
theorem exsF_eq (d : Int) : ∀ l : List Ex, exsF l d = errFirst (fun x => exF x d) l
  | [] => by rw [exsF]; rfl
  | x :: r => by rw [exsF, errFirst, exsF_eq d r]
theorem arityF_three (op : Int) : arityF op ≤ 3 := by
  unfold arityF
  split
  · decide
  · split
    · decide
    · split
      · decide
      · split <;> decide
end Go.Proofs.YtkpfkadjmijmlaaGreatDoor.X
