/- What a channel does, in plain words. -/
import Derived.Test.YtlkklaahnkcnkaaDoorPure
namespace Go.Proofs.YtlkklaahnkcnkaaDoor.X

def fateAt (fs : List Int) (u : Nat) : Int := fs.getD u 0
/-- What is under way: what arrives now, and late. -/
structure Fl where
  now : List Nat
  late : List Nat
def Fl.send (f : Fl) (n : Nat) (k : Int) : Fl := if k = 0 then ⟨f.now ++ [n], f.late⟩ else if k = 2 then ⟨f.now ++ [n, n], f.late⟩ else if k = 3 then ⟨f.now, f.late ++ [n]⟩ else f
/-- n, n + 1, .. are sent. -/
def sends (fs : List Int) : Nat → Nat → Nat → Fl → Fl
  | 0, _, _, f => f
  | c + 1, n, u, f => sends fs c (n + 1) (u + 1) (f.send n (fateAt fs u))
theorem sends_snoc (fs : List Int) : ∀ (c n u : Nat) (f : Fl), sends fs (c + 1) n u f = (sends fs c n u f).send (n + c) (fateAt fs (u + c))
  | 0, n, u, f => rfl
  | c + 1, n, u, f => by
    rw [sends, sends_snoc fs c (n + 1) (u + 1), sends]
    congr 1 <;> first | omega | (congr 1; omega)
theorem Fl.send_len (f : Fl) (n : Nat) (k : Int) : (f.send n k).now.length ≤ f.now.length + 2 ∧ (f.send n k).late.length ≤ f.late.length + 1 := by
  unfold Fl.send
  split
  · simp
  · split
    · simp
    · split <;> simp
theorem sends_len (fs : List Int) : ∀ (c n u : Nat) (f : Fl), (sends fs c n u f).now.length ≤ f.now.length + 2 * c ∧ (sends fs c n u f).late.length ≤ f.late.length + c
  | 0, _, _, f => by simp [sends]
  | c + 1, n, u, f => by
    have h1 := f.send_len n (fateAt fs u)
    have h2 := sends_len fs c (n + 1) (u + 1) (f.send n (fateAt fs u))
    rw [sends]
    omega
/-- The receiver. -/
structure Rc where
  accepted : Nat
  waste : Nat
  rounds : List Nat
def Rc.one (r : Rc) (rd n : Nat) : Rc := if n = r.accepted then ⟨r.accepted + 1, r.waste, r.rounds ++ [rd]⟩ else ⟨r.accepted, r.waste + 1, r.rounds⟩
def Rc.all (r : Rc) (rd : Nat) (l : List Nat) : Rc := l.foldl (fun r n => r.one rd n) r
theorem Rc.one_ok (r : Rc) (rd n : Nat) : (r.one rd n).accepted + (r.one rd n).waste = r.accepted + r.waste + 1 ∧ r.accepted ≤ (r.one rd n).accepted ∧ r.waste ≤ (r.one rd n).waste ∧ ((r.one rd n).rounds.length + r.accepted = r.rounds.length + (r.one rd n).accepted) := by
  unfold Rc.one
  split <;> simp <;> omega
theorem Rc.all_snoc (r : Rc) (rd : Nat) (l : List Nat) (n : Nat) : r.all rd (l ++ [n]) = (r.all rd l).one rd n := by simp [Rc.all]
theorem Rc.all_ok (r : Rc) (rd : Nat) (l : List Nat) : (r.all rd l).accepted + (r.all rd l).waste = r.accepted + r.waste + l.length ∧ r.accepted ≤ (r.all rd l).accepted ∧ r.waste ≤ (r.all rd l).waste ∧ ((r.all rd l).rounds.length + r.accepted = r.rounds.length + (r.all rd l).accepted) := by
  induction l generalizing r with
  | nil => simp [Rc.all]
  | cons n l ih =>
    have h1 := r.one_ok rd n
    have h2 := ih (r.one rd n)
    have h3 : r.all rd (n :: l) = (r.one rd n).all rd l := rfl
    rw [h3, List.length_cons]
    omega
/-- A channel between rounds. -/
structure C9 where
  acked : Nat
  rc : Rc
  lateP : List Nat
  lateA : List Nat
  packets : Nat
  acks : Nat
  used : Nat
def C9.cnt (s : C9) (many window : Nat) : Nat := min many (s.acked + window) - s.acked
def C9.pk (s : C9) (fs : List Int) (many window : Nat) : Fl := sends fs (s.cnt many window) s.acked s.used ⟨s.lateP, []⟩
def C9.rc' (s : C9) (fs : List Int) (many window rd : Nat) : Rc := s.rc.all rd (s.pk fs many window).now
def C9.heard (s : C9) (fs : List Int) (many window : Nat) : Bool := decide (0 < (s.pk fs many window).now.length)
def C9.ak (s : C9) (fs : List Int) (many window rd : Nat) : Fl :=
  if s.heard fs many window then (⟨s.lateA, []⟩ : Fl).send (s.rc' fs many window rd).accepted (fateAt fs (s.used + s.cnt many window)) else ⟨s.lateA, []⟩
def maxAll (a : Nat) (l : List Nat) : Nat := l.foldl max a
theorem maxAll_snoc (a : Nat) (l : List Nat) (n : Nat) : maxAll a (l ++ [n]) = max (maxAll a l) n := by simp [maxAll]
def one? (b : Bool) : Nat := if b then 1 else 0
def C9.round (s : C9) (fs : List Int) (many window rd : Nat) : C9 :=
  { acked := maxAll s.acked (s.ak fs many window rd).now, rc := s.rc' fs many window rd, lateP := (s.pk fs many window).late, lateA := (s.ak fs many window rd).late,
    packets := s.packets + s.cnt many window, acks := s.acks + one? (s.heard fs many window), used := s.used + s.cnt many window + one? (s.heard fs many window) }
def C9.run (fs : List Int) (many window : Nat) : Nat → Nat → C9 → Nat × C9
  | 0, rd, s => (rd, s)
  | k + 1, rd, s => if s.acked < many then C9.run fs many window k (rd + 1) (s.round fs many window rd) else (rd, s)
theorem C9.run_step {fs : List Int} {many window k rd : Nat} {s : C9} (h : s.acked < many) : C9.run fs many window (k + 1) rd s = C9.run fs many window k (rd + 1) (s.round fs many window rd) := by rw [C9.run, if_pos h]
theorem C9.run_end {fs : List Int} {many window k rd : Nat} {s : C9} (h : ¬ s.acked < many ∨ k = 0) : C9.run fs many window k rd s = (rd, s) := by
  cases k with
  | zero => rfl
  | succ k => rw [C9.run, if_neg (by omega)]
def C9.start : C9 := ⟨0, ⟨0, 0, []⟩, [], [], 0, 0, 0⟩
/-- What was carried: how many rounds, and the channel behind them. -/
def carryF (fs : List Int) (many window most : Nat) : Nat × C9 := C9.run fs many window most 0 C9.start

/-! What stays in bounds. -/
theorem Fl.send_mem {f : Fl} {n : Nat} {k : Int} {p : Nat → Prop} (hn : p n) (h1 : ∀ x ∈ f.now, p x) (h2 : ∀ x ∈ f.late, p x) : (∀ x ∈ (f.send n k).now, p x) ∧ ∀ x ∈ (f.send n k).late, p x := by
  unfold Fl.send
  split
  · refine ⟨fun x hx => ?_, h2⟩
    rcases List.mem_append.1 hx with hx | hx
    · exact h1 x hx
    · rw [List.mem_singleton.1 hx]; exact hn
  · split
    · refine ⟨fun x hx => ?_, h2⟩
      rcases List.mem_append.1 hx with hx | hx
      · exact h1 x hx
      · have : x = n := by simpa using hx
        rw [this]; exact hn
    · split
      · refine ⟨h1, fun x hx => ?_⟩
        rcases List.mem_append.1 hx with hx | hx
        · exact h2 x hx
        · rw [List.mem_singleton.1 hx]; exact hn
      · exact ⟨h1, h2⟩
theorem sends_mem (fs : List Int) (m : Nat) : ∀ (c n u : Nat) (f : Fl), n + c ≤ m → (∀ x ∈ f.now, x < m) → (∀ x ∈ f.late, x < m) → (∀ x ∈ (sends fs c n u f).now, x < m) ∧ ∀ x ∈ (sends fs c n u f).late, x < m
  | 0, _, _, _, _, h1, h2 => ⟨h1, h2⟩
  | c + 1, n, u, f, h, h1, h2 => by
    have := Fl.send_mem (f := f) (n := n) (k := fateAt fs u) (p := (· < m)) (by omega) h1 h2
    exact sends_mem fs m c (n + 1) (u + 1) _ (by omega) this.1 this.2
theorem Rc.all_le {m rd : Nat} : ∀ (l : List Nat) (r : Rc), (∀ x ∈ l, x < m) → r.accepted ≤ m → (r.all rd l).accepted ≤ m
  | [], _, _, h => h
  | x :: l, r, hl, h => by
    have : (r.one rd x).accepted ≤ m := by
      have := hl x (List.mem_cons_self)
      unfold Rc.one
      split <;> simp <;> omega
    exact Rc.all_le l (r.one rd x) (fun y hy => hl y (List.mem_cons_of_mem _ hy)) this
theorem maxAll_le {m : Nat} : ∀ (l : List Nat) (a : Nat), (∀ x ∈ l, x ≤ m) → a ≤ m → maxAll a l ≤ m
  | [], _, _, h => h
  | x :: l, a, hl, h => by
    have h1 := hl x (List.mem_cons_self)
    exact maxAll_le l (max a x) (fun y hy => hl y (List.mem_cons_of_mem _ hy)) (by omega)
structure C9.Ok (s : C9) (many window rd : Nat) : Prop where
  acked : s.acked ≤ many
  acc : s.rc.accepted ≤ many
  lateP : ∀ x ∈ s.lateP, x < many
  lateA : ∀ x ∈ s.lateA, x ≤ many
  lenP : s.lateP.length ≤ window
  lenA : s.lateA.length ≤ 1
  rounds : s.rc.rounds.length = s.rc.accepted
  waste : s.rc.waste ≤ rd * (3 * window)
  packets : s.packets ≤ rd * window
  acks : s.acks ≤ rd
  used : s.used ≤ rd * (window + 1)
theorem C9.cnt_le (s : C9) (many window : Nat) : s.cnt many window ≤ window := by unfold C9.cnt; omega
theorem one?_le (b : Bool) : one? b ≤ 1 := by cases b <;> decide
theorem C9.Ok.pkOk {s : C9} {many window rd : Nat} (h : s.Ok many window rd) (fs : List Int) : (∀ x ∈ (s.pk fs many window).now, x < many) ∧ (∀ x ∈ (s.pk fs many window).late, x < many) ∧ (s.pk fs many window).now.length ≤ 3 * window ∧ (s.pk fs many window).late.length ≤ window := by
  have hc := s.cnt_le many window
  have h1 := sends_mem fs many (s.cnt many window) s.acked s.used ⟨s.lateP, []⟩ (by have := h.acked; unfold C9.cnt; omega) h.lateP (by simp)
  have h2 := sends_len fs (s.cnt many window) s.acked s.used ⟨s.lateP, []⟩
  have h3 := h.lenP
  simp only [List.length_nil] at h2
  exact ⟨h1.1, h1.2, by unfold C9.pk; omega, by unfold C9.pk; omega⟩
theorem C9.Ok.akOk {s : C9} {many window rd : Nat} (h : s.Ok many window rd) (fs : List Int) : (∀ x ∈ (s.ak fs many window rd).now, x ≤ many) ∧ (∀ x ∈ (s.ak fs many window rd).late, x ≤ many) ∧ (s.ak fs many window rd).now.length ≤ 3 ∧ (s.ak fs many window rd).late.length ≤ 1 := by
  have hp := h.pkOk fs
  have hA := h.lenA
  have hacc : (s.rc' fs many window rd).accepted ≤ many := Rc.all_le _ _ hp.1 h.acc
  unfold C9.ak
  split
  · have h1 := Fl.send_mem (f := ⟨s.lateA, []⟩) (n := (s.rc' fs many window rd).accepted) (k := fateAt fs (s.used + s.cnt many window)) (p := (· ≤ many)) hacc h.lateA (by simp)
    have h2 := Fl.send_len ⟨s.lateA, []⟩ (s.rc' fs many window rd).accepted (fateAt fs (s.used + s.cnt many window))
    simp only [List.length_nil] at h2
    exact ⟨h1.1, h1.2, by omega, by omega⟩
  · exact ⟨h.lateA, by simp, by simp; omega, by simp⟩
theorem C9.Ok.round {s : C9} {many window rd : Nat} (h : s.Ok many window rd) (fs : List Int) : (s.round fs many window rd).Ok many window (rd + 1) := by
  have hp := h.pkOk fs
  have ha := h.akOk fs
  have hr := s.rc.all_ok rd (s.pk fs many window).now
  have hc := s.cnt_le many window
  have ho := one?_le (s.heard fs many window)
  have h1 := h.rounds
  have h2 := h.waste
  have h3 := h.packets
  have h4 := h.acks
  have h5 := h.used
  refine ⟨maxAll_le _ _ ha.1 h.acked, Rc.all_le _ _ hp.1 h.acc, hp.2.1, ha.2.1, hp.2.2.2, ha.2.2.2, ?_, ?_, ?_, ?_, ?_⟩
  · show (s.rc.all rd (s.pk fs many window).now).rounds.length = (s.rc.all rd (s.pk fs many window).now).accepted
    omega
  · show (s.rc.all rd (s.pk fs many window).now).waste ≤ _
    rw [Nat.add_mul]; omega
  · show s.packets + s.cnt many window ≤ _
    rw [Nat.add_mul]; omega
  · show s.acks + one? (s.heard fs many window) ≤ _
    omega
  · show s.used + s.cnt many window + one? (s.heard fs many window) ≤ _
    rw [Nat.add_mul]; omega
theorem C9.Ok.small {s : C9} {many window rd : Nat} (h : s.Ok many window rd) (hw : window ≤ 1000) (hr : rd ≤ 10000) : s.used ≤ 10010000 ∧ s.packets ≤ 10000000 ∧ s.acks ≤ 10000 ∧ s.rc.waste ≤ 30000000 := by
  have h1 : rd * (window + 1) ≤ 10000 * 1001 := Nat.mul_le_mul hr (by omega)
  have h2 : rd * window ≤ 10000 * 1000 := Nat.mul_le_mul hr hw
  have h3 : rd * (3 * window) ≤ 10000 * 3000 := Nat.mul_le_mul hr (by omega)
  have := h.used
  have := h.packets
  have := h.acks
  have := h.waste
  omega
theorem C9.start_ok (many window : Nat) : C9.start.Ok many window 0 := ⟨by simp [C9.start], by simp [C9.start], by simp [C9.start], by simp [C9.start], by simp [C9.start], by simp [C9.start], by simp [C9.start], by simp [C9.start], by simp [C9.start], by simp [C9.start], by simp [C9.start]⟩
end Go.Proofs.YtlkklaahnkcnkaaDoor.X
