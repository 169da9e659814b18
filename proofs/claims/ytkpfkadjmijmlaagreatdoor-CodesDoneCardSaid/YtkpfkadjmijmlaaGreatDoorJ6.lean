/- Texts of this claim, joined: CodesDone: Code, Back, Exec and Stack do as the reference says, whatever numbers the inputs are drawn from. No condition beside the card's own. -/
import Derived.Test.YtkpfkadjmijmlaaGreatDoorCards
import Derived.Test.YtkpfkadjmijmlaaGreatDoorTie
import Derived.WalkKit
import Derived.ProofKit
import Derived.OpenShut
import Derived.ChangeOld
import Derived.Below
import Derived.SizedLaws
import Derived.ChangeSlices
import Derived.Lib.LaidIn
import Derived.Lib.LaidU8T
import Derived.Deep.DeepHandedRow
import Derived.Deep.DeepWitnessRowRef
import Derived.SevenTiedAt
import Derived.Test.YtkpfkadjmijmlaaGreatDoorJ4
import Derived.Test.YtkpfkadjmijmlaaGreatDoorJ5
/- Generators: RightExpr. -/
namespace Go.Proofs.YtkpfkadjmijmlaaGreatDoor.M
open Go.Proofs Go.Proofs.YtkpfkadjmijmlaaGreatDoor.X
set_option linter.unusedSimpArgs false
set_option linter.unusedVariables false
set_option maxRecDepth 100000
set_option pp.deepTerms false
set_option pp.deepTerms.threshold 6
set_option maxHeartbeats 4000000
mutual
theorem idsLt_mono {m n : Nat} (h : m ≤ n) : ∀ v : AVal, v.idsLt m = true → v.idsLt n = true
  | .agg cs, q => by simp only [AVal.idsLt] at q ⊢; exact idsLts_mono h cs q
  | .lst cs, q => by simp only [AVal.idsLt] at q ⊢; exact idsLts_mono h cs q
  | .tup cs, q => by simp only [AVal.idsLt] at q ⊢; exact idsLts_mono h cs q
  | .ptr i o, q => by simp [AVal.idsLt] at q ⊢; omega
  | .sl a b c d e, q => by simp [AVal.idsLt] at q ⊢; omega
  | .pel e o, q => by simp only [AVal.idsLt] at q ⊢; exact idsLt_mono h e q
  | .map i, q => by simp [AVal.idsLt] at q ⊢; omega
  | .clo f l k, q => by simp only [AVal.idsLt, Bool.and_eq_true] at q ⊢; exact ⟨idsLts_mono h l q.1, idsLts_mono h k q.2⟩
  | .int _ _, _ => by simp [AVal.idsLt]
  | .bool _, _ => by simp [AVal.idsLt]
  | .str _, _ => by simp [AVal.idsLt]
  | .nilp, _ => by simp [AVal.idsLt]
  | .nilf, _ => by simp [AVal.idsLt]
  | .nilm, _ => by simp [AVal.idsLt]
  | .nils, _ => by simp [AVal.idsLt]
  | .bad, _ => by simp [AVal.idsLt]
theorem idsLts_mono {m n : Nat} (h : m ≤ n) : ∀ l : List AVal, idsLts m l = true → idsLts n l = true
  | [], _ => by simp [idsLts]
  | v :: r, q => by simp only [idsLts, Bool.and_eq_true] at q ⊢; exact ⟨idsLt_mono h v q.1, idsLts_mono h r q.2⟩
end
def blkLow (n : Nat) : ABlk → Bool
  | .cells cs => cs.all fun c => c.1.idsLt n
  | .map es => es.all fun p => p.1.idsLt n && p.2.idsLt n
theorem hclean_iff {n : Nat} {h : Heap} : hclean n h = true ↔ ∀ p ∈ h, p.1 < n → blkLow n p.2 = true := by
  unfold hclean
  rw [List.all_eq_true]
  constructor
  · intro h p hp hlt
    have := h p hp
    obtain ⟨i, b⟩ := p
    cases b <;> simpa [hlt, blkLow] using this
  · intro h p hp
    obtain ⟨i, b⟩ := p
    by_cases hlt : i < n
    · have := h _ hp hlt
      cases b <;> simpa [hlt, blkLow] using this
    · simp [hlt]
theorem Base.up {n : Nat} {hp : Heap} (h : Base n hp) : Base (n + 1) hp := by
  refine ⟨Fresh.up h.1 (by omega), hclean_iff.2 fun p hp' _ => ?_⟩
  have hlt : p.1 < n := by
    have := h.1
    unfold hlow at this
    have := (List.filter_eq_self.1 this) p hp'
    simpa using this
  have := hclean_iff.1 h.2 p hp' hlt
  obtain ⟨i, b⟩ := p
  cases b with
  | cells cs =>
    simp only [blkLow, List.all_eq_true] at this ⊢
    exact fun c hc => idsLt_mono (by omega) _ (this c hc)
  | map es =>
    simp only [blkLow, List.all_eq_true, Bool.and_eq_true] at this ⊢
    exact fun c hc => ⟨idsLt_mono (by omega) _ (this c hc).1, idsLt_mono (by omega) _ (this c hc).2⟩
theorem Base.push {n : Nat} {hp : Heap} (h : Base n hp) {cs : List Cell} (hc : ∀ c ∈ cs, c.1.idsLt (n + 1) = true) : Base (n + 1) ((n, .cells cs) :: hp) := by
  refine ⟨Fresh.push h.1 _, ?_⟩
  rw [hclean_cons, Bool.and_eq_true]
  refine ⟨?_, h.up.2⟩
  simp only [Bool.or_eq_true]
  exact .inr (List.all_eq_true.2 hc)
theorem boxX_ids (n : Nat) (x : Ex) : ∀ c ∈ [((.int .i64 x.op : AVal), false), (.int .i64 x.n, false), (.str x.name, false), (.lst (encXs x.args), false)], c.1.idsLt n = true := by
  intro c hc
  simp at hc
  rcases hc with rfl | rfl | rfl | rfl <;> simp [encXs_ids]
def exV : Ex := .mk 2 0 ⟨#[120]⟩ []
theorem exV_ok : exF exV 1 = 0 := by decide
theorem rightExpr_R (l : List Int) (a : Int) (s ro nx : Nat) (hp : Heap) (ha : 0 ≤ a) (hb : a + 700000 < 4611686018427387000) (hl : l.length < 4611686018427387904) (hs : hget hp s = some (strm l a)) (hro : ro ≤ s) (hB : Base nx hp) :
    ∃ x a', R K 39 [.ptr s 0] ro nx hp = some ⟨encX x, false, nx, hset hp s (strm l a')⟩ ∧ exF x 1 = 0 ∧ a ≤ a' ∧ a' ≤ a + 600000 := by
  have e := LB_open (P := Tryz.prog) [] 0 Tryz.func39 rfl rfl (by kernel_rfl)
  simp only [slim, slimO, annO, List.map, List.zip, List.zipWith, List.lookup, holed, loopsOf, List.nil_append, List.cons_append, List.getD_cons_zero, List.getD_cons_succ, Nat.reduceBEq] at e
  have hsn := hget_lt hB hs
  have hloop := rounds (K := K) (ro := ⟨ro, []⟩) e 6 (fun k tm1 n h => tm1.length = 14 ∧ getC tm1 0 = (.ptr s 0, false) ∧ getC tm1 2 = (.ptr nx 0, false) ∧ getC tm1 4 = (.int .i64 k, false) ∧ nx < n ∧ ∃ b, a ≤ b ∧ b ≤ a + 100000 * k ∧ Base n h ∧ hlow nx h = hset hp s (strm l b) ∧ hget h s = some (strm l b) ∧ hget h nx = some (.cells [(.int .i64 0, false), (.int .i64 0, false), (.str ByteArray.empty, false), (.lst [], true)]))
    (fun r => ∃ tm' n' hp' b, a ≤ b ∧ b ≤ a + 600000 ∧ tm'.length = 14 ∧ getC tm' 2 = (.ptr nx 0, false) ∧ hlow nx hp' = hset hp s (strm l b) ∧ ((r = some (.exit 0, ⟨tm', n', hp'⟩) ∧ hget hp' nx = some (.cells [(.int .i64 0, false), (.int .i64 0, false), (.str ByteArray.empty, false), (.lst [], true)])) ∨ ∃ x, r = some (.ret, ⟨tm', n', hp'⟩) ∧ exF x 1 = 0 ∧ hget hp' nx = some (boxX x))) (fun tm1 n h r => by
      rintro ⟨ht, t0, t2, t4, hn, b, hb1, hb2, hBn, hlw, hsb, hz⟩ hX
      simp [ht, t4] at hX
      subst hX
      exact ⟨_, _, rfl, by simp, _, _, _, b, hb1, by omega, by simp [ht], by simp [t2], hlw, .inl ⟨rfl, hz⟩⟩) (fun k tm1 n h r hk => by
      rintro ⟨ht, t0, t2, t4, hn, b, hb1, hb2, hBn, hlw, hsb, hz⟩ hX
      have hk6 : (k : Int) < 6 := by omega
      have hw2 : IntKind.i64.wrap ((k : Int) + 1) = (k : Int) + 1 := wrap_small (by omega) (by omega)
      obtain ⟨x, b', hR, q1, q2⟩ := anExpr_R l b s ro n h (by omega) (by omega) hl hsb hro hBn
      have hef := exprFaultQ_R x
      rw [encX_eq] at hR hef
      have hron : ro ≤ n := by omega
      have hron2 : ro ≤ nx := by omega
      have w1 : ¬ nx = n := by omega
      have w1' : ¬ n = nx := by omega
      have w2 : ¬ s = n := by omega
      have w3 : ¬ nx = s := by omega
      have hz' : hget (hset h s (strm l b')) nx = some (.cells [(.int .i64 0, false), (.int .i64 0, false), (.str ByteArray.empty, false), (.lst [], true)]) := by rw [hget_hset, if_neg w3]; exact hz
      have hBn' : Base n (hset h s (strm l b')) := hBn.set l b'
      have hlw' : hlow nx (hset h s (strm l b')) = hset hp s (strm l b') := by rw [hlow_hset, hlw, hset_hset]
      have hsb' : hget (hset h s (strm l b')) s = some (strm l b') := hget_strm hsb b'
      generalize hset h s (strm l b') = h1 at hR hz' hBn' hlw' hsb'
      by_cases c : exF x 1 = 0
      · right
        simp [ht, t0, t2, t4, hk6, hR, hef, c, hron, hron2, w1, w1', hz', hw2] at hX
        subst hX
        refine ⟨_, _, rfl, by simp, _, _, _, b', by omega, by omega, by simp [ht], by simp [t2], ?_, .inr ⟨x, rfl, c, ?_⟩⟩
        · rw [hlow_cons, if_neg (by omega), hlow_hset' _ _ _ _ (Nat.le_refl _)]; exact hlw'
        · rw [hget_cons, if_neg w1, hget_hset_same, hz']; simp [boxX]
      · left
        simp [ht, t0, t2, t4, hk6, hR, hef, c, hron, hron2, w1, w1', hz', hw2] at hX
        subst hX
        refine ⟨_, _, _, rfl, by simp [ht], by simp [t0], by simp [t2], by simp [ht], by omega, b', by omega, by omega, hBn'.push (boxX_ids _ x), ?_, ?_, ?_⟩
        · rw [hlow_cons, if_neg (by omega)]; exact hlw'
        · rw [hget_cons, if_neg w2]; exact hsb'
        · rw [hget_cons, if_neg w1]; exact hz') 0
  have hron : ro ≤ nx := by omega
  have w3 : ¬ s = nx := by omega
  generalize hX : R K _ _ _ _ _ = z
  rw [R_tidy' K ro 39 _ nx hp [] Tryz.func39 rfl Tryz.ntmps39 Tryz.results39 (mu := []) rfl (by kernel_rfl) rfl rfl rfl rfl] at hX; simp only [slim, slimO, annO, List.map, List.zip, List.zipWith, List.lookup, holed, Nat.reduceBEq] at hX
  simp [List.replicate] at hX
  generalize hg : X K _ (.loop _) _ = r at hX
  obtain ⟨tm', n', hp', b, hb1, hb2, g1, g2, hlw, hor⟩ : ∃ tm' n' hp' b, a ≤ b ∧ b ≤ a + 600000 ∧ tm'.length = 14 ∧ getC tm' 2 = (.ptr nx 0, false) ∧ hlow nx hp' = hset hp s (strm l b) ∧ ((r = some (.exit 0, ⟨tm', n', hp'⟩) ∧ hget hp' nx = some (.cells [(.int .i64 0, false), (.int .i64 0, false), (.str ByteArray.empty, false), (.lst [], true)])) ∨ ∃ x, r = some (.ret, ⟨tm', n', hp'⟩) ∧ exF x 1 = 0 ∧ hget hp' nx = some (boxX x)) := by
    rw [← hg]
    refine hloop _ _ _ (by omega) ?_
    refine ⟨?_, ?_, ?_, ?_, by omega, a, by omega, by omega, hB.push ?_, ?_, ?_, ?_⟩
    · simp
    · simp
    · simp
    · simp
    · intro c hc; simp at hc; rcases hc with rfl | rfl | rfl | rfl <;> simp
    · rw [hlow_cons, if_neg (by omega), hB.1, hset_self hs]
    · rw [hget_cons, if_neg w3]; exact hs
    · exact hget_same _ _ _
  clear hg hloop
  have hcl : hclean nx hp' = true := by rw [← hclean_hlow, hlw]; exact (hB.set l b).2
  rcases hor with ⟨rfl, hz⟩ | ⟨x, rfl, hx, hz⟩
  · refine ⟨exV, b, ?_, exV_ok, hb1, hb2⟩
    rw [← hX]
    have hlw2 : ∀ cs, hlow nx (hset hp' nx (.cells cs)) = hset hp s (strm l b) := fun cs => by rw [hlow_hset' _ _ _ _ (Nat.le_refl _)]; exact hlw
    have hcl2 : ∀ cs, hclean nx (hset hp' nx (.cells cs)) = true := fun cs => by rw [← hclean_hlow, hlw2]; exact (hB.set l b).2
    simp [g1, g2, hz, hron, exV, encX, encXs, hlw2, hcl2]
  · refine ⟨x, b, ?_, hx, hb1, hb2⟩
    rw [← hX]
    simp only [boxX] at hz
    simp [g1, g2, hz, hron, encX_eq, encXs_ids, hlw, hcl]
end Go.Proofs.YtkpfkadjmijmlaaGreatDoor.M
/- Generators: AnExprCode. -/
namespace Go.Proofs.YtkpfkadjmijmlaaGreatDoor.M
open Go.Proofs Go.Proofs.YtkpfkadjmijmlaaGreatDoor.X
set_option linter.unusedSimpArgs false
set_option linter.unusedVariables false
set_option maxRecDepth 100000
set_option pp.deepTerms false
set_option pp.deepTerms.threshold 6
set_option maxHeartbeats 4000000
theorem FZ_wordsP {lo id : Nat} {hp : Heap} {ws : List Wd} {cs : List Cell} (hid : hget hp id = some (.cells cs)) (hcs : (cs.map (·.1)).take (ws.length * 3) = flats (encWs ws)) (hlen : ws.length * 3 ≤ cs.length) (hlo : lo ≤ id) : FZ lo hp (.sl id 0 ws.length 3 true) = some (.lst (encWs ws)) := by
  refine FZ_iff.2 ⟨1, ?_⟩
  have e : fz lo hp 1 (.sl id 0 ws.length 3 true) = if (AVal.sl id 0 ws.length 3 true).idsLt lo then some (.sl id 0 ws.length 3 true) else fzv lo hp (fz lo hp 0) (.sl id 0 ws.length 3 true) := rfl
  rw [e, if_neg (by simp; omega)]
  simp only [fzv, hid]
  have e2 : ((cs.drop 0).take (ws.length * 3)).map (·.1) = flats (encWs ws) := by rw [List.drop_zero, List.map_take, hcs]
  rw [if_pos ⟨hlo, by decide, .inl trivial, by omega⟩, e2, mapO_low encWs_low]
  have := chunks_flats (encWs_agg (l := ws))
  rw [encWs_len] at this
  simp [chop, this]
theorem code_fin {l : List Int} {s nx : Nat} {hp h4 : Heap} {b : Int} {id m n' : Nat} {cs : List Cell} {ws : List Wd} (hB : Base nx hp) (hlw : hlow nx h4 = hset hp s (strm l b)) (hg : hget h4 id = some (.cells cs)) (hid : nx ≤ id) (hm : ws.length = m) (hcs : (cs.map (·.1)).take (m * 3) = flats (encWs ws)) (hlen : m * 3 ≤ cs.length) :
    Tidied nx (some ⟨.sl id 0 m 3 true, false, n', h4⟩) = some ⟨.lst (encWs ws), false, nx, hset hp s (strm l b)⟩ := by
  subst hm
  rw [Tidied_FZ (FZ_wordsP hg hcs hlen hid) (by simp) (by simp; omega) (by rw [← hclean_hlow, hlw]; exact (hB.set l b).2), hlw]
theorem flat_set1 : ∀ (ws : List Wd) (i : Nat) (w : Wd) (v : Int), ws[i]? = some w → (flats (encWs ws)).set (i * 3 + 1) (.int .i64 v) = flats (encWs (ws.set i ⟨w.op, v, w.name⟩)) := by
  intro ws
  induction ws with
  | nil => intro i w v h; simp at h
  | cons x r ih =>
    intro i w v h
    cases i with
    | zero => cases h; rfl
    | succ i =>
      have e : flats (encWs (x :: r)) = .int .i64 x.op :: .int .i64 x.n :: .str x.name :: flats (encWs r) := rfl
      have e2 : flats (encWs ((x :: r).set (i + 1) ⟨w.op, v, w.name⟩)) = .int .i64 x.op :: .int .i64 x.n :: .str x.name :: flats (encWs (r.set i ⟨w.op, v, w.name⟩)) := rfl
      rw [e, e2, ← ih i w v (by simpa using h), show (i + 1) * 3 + 1 = i * 3 + 1 + 3 by omega]
      rfl
theorem flat_set2 : ∀ (ws : List Wd) (i : Nat) (w : Wd) (v : ByteArray), ws[i]? = some w → (flats (encWs ws)).set (i * 3 + 2) (.str v) = flats (encWs (ws.set i ⟨w.op, w.n, v⟩)) := by
  intro ws
  induction ws with
  | nil => intro i w v h; simp at h
  | cons x r ih =>
    intro i w v h
    cases i with
    | zero => cases h; rfl
    | succ i =>
      have e : flats (encWs (x :: r)) = .int .i64 x.op :: .int .i64 x.n :: .str x.name :: flats (encWs r) := rfl
      have e2 : flats (encWs ((x :: r).set (i + 1) ⟨w.op, w.n, v⟩)) = .int .i64 x.op :: .int .i64 x.n :: .str x.name :: flats (encWs (r.set i ⟨w.op, w.n, v⟩)) := rfl
      rw [e, e2, ← ih i w v (by simpa using h), show (i + 1) * 3 + 2 = i * 3 + 2 + 3 by omega]
      rfl
theorem del_R {id n i ro nx : Nat} {cs : List Cell} {hp : Heap} (hg : hget hp id = some (.cells cs)) (hro : ro ≤ id) (hi : i < n) (hl : cs.length = 3 * n) (hn : n < 1099511627776) :
    R K 40 [.sl id 0 n 3 true, .int .i64 (i : Nat), .int .i64 ((i : Int) + 1)] ro nx hp = some ⟨.sl id 0 (n - 1) 3 true, false, nx, hset hp id (.cells (delCells 3 i wordZ cs))⟩ := by
  refine ext_open rfl rfl (K_ext2 rfl rfl rfl rfl ?_)
  have h6 : delExt 40 3 wordZ 40 [.sl id 0 n 3 true, .int .i64 (i : Nat), .int .i64 ((i : Int) + 1)] ro nx hp = some ⟨.sl id 0 (n - 1) 3 true, false, nx, hset hp id (.cells (delCells 3 i wordZ cs))⟩ := by
    simp only [delExt, if_true, hg]
    rw [if_pos ⟨hro, trivial, by omega, trivial, by omega, hl, hn⟩]
    rfl
  show orExt _ (orExt _ (orExt _ (orExt _ _))) _ _ _ _ _ = _
  simp only [orExt, h6]
  rfl
theorem anCode_R (l : List Int) (a : Int) (s ro nx : Nat) (hp : Heap) (ha : 0 ≤ a) (hb : a + 800000 < 4611686018427387000) (hl : l.length < 4611686018427387904) (hs : hget hp s = some (strm l a)) (hro : ro ≤ s) (hB : Base nx hp) :
    ∃ c a', R K 6 [.ptr s 0] ro nx hp = some ⟨.lst (encWs c), false, nx, hset hp s (strm l a')⟩ ∧ a ≤ a' ∧ a' ≤ a + 700000 := by
  have hsn := hget_lt hB hs
  obtain ⟨x, a1, hR, hx, ha1, ha2⟩ := rightExpr_R l a s ro nx hp ha (by omega) hl hs hro hB
  obtain ⟨id, n1, h1, hC, q1, q2, q3, q4, q5⟩ := codeOf_R hx ro nx (hset hp s (strm l a1)) (by omega)
  obtain ⟨q6, q7⟩ := q5 (hB.set l a1).1
  have hs1 : hget h1 s = some (strm l a1) := by rw [q4 s hsn]; exact hget_strm hs a1
  have hcb := cnt_bound hx (by decide)
  have hcp := partsX_pos x
  rw [encX_eq] at hR hC
  rw [← wordsX_len (partsX x)] at hcb hcp
  generalize wordsX (partsX x) = ws at hC q3 hcb hcp
  have hcs : (unown (flats (encWs ws))).map (·.1) = flats (encWs ws) := unown_fst _
  have hcl : (unown (flats (encWs ws))).length = 3 * ws.length := by rw [unown_len, flats_len encWs_flat, encWs_len]; omega
  generalize unown (flats (encWs ws)) = cs at q3 hcs hcl
  have hfl : (flats (encWs ws)).length = 3 * ws.length := by rw [flats_len encWs_flat, encWs_len]; omega
  have hids : ¬ id = s := by omega
  have hsid : ¬ s = id := by omega
  have hsb : ∀ b, hget (hset h1 s (strm l b)) s = some (strm l b) := fun b => hget_strm hs1 b
  have hib : ∀ b, hget (hset h1 s (strm l b)) id = some (.cells cs) := fun b => by rw [hget_hset, if_neg hids]; exact q3
  have hlb : ∀ b, hlow nx (hset h1 s (strm l b)) = hset hp s (strm l b) := fun b => by rw [hlow_hset, q6, hset_hset]
  have hF := flip_R l a1 4 s ro n1 h1 ⟨by omega, by omega⟩ (by omega) hl hs1 hro
  have hN := next_R l (a1 + 1) ws.length s ro n1 _ ⟨by omega, by omega⟩ (by omega) hl (hsb (a1 + 1)) hro
  rw [hset_hset, show a1 + 1 + 1 = a1 + 2 by omega] at hN
  have hM := next_R l (a1 + 2) 4 s ro n1 _ ⟨by omega, by omega⟩ (by omega) hl (hsb (a1 + 2)) hro
  rw [hset_hset, show a1 + 2 + 1 = a1 + 3 by omega] at hM
  have hrg := (nextF_range l (a1 + 1) ws.length).1 (by omega)
  obtain ⟨i, hi⟩ : ∃ i : Nat, nextF l (a1 + 1) ws.length = i := ⟨(nextF l (a1 + 1) ws.length).toNat, by omega⟩
  rw [hi] at hN hrg
  have hin : i < ws.length := by omega
  have hwi := List.getElem?_eq_getElem hin
  have hroi : ro ≤ id := by omega
  have hw1 : IntKind.i64.wrap ((i : Int) + 1) = (i : Int) + 1 := wrap_small (by omega) (by omega)
  by_cases c0 : nextF l a1 4 = 0
  · by_cases d0 : nextF l (a1 + 2) 4 = 0
    · have hD := del_R (ro := ro) (nx := n1) (hib (a1 + 3)) hroi hin hcl (by omega)
      refine ⟨ws.take i ++ ws.drop (i + 1), a1 + 3, ?_, by omega, by omega⟩
      rw [R_tidy' K ro 6 _ nx hp [] Tryz.func6 rfl Tryz.ntmps6 Tryz.results6 (mu := [30]) rfl (by kernel_rfl) rfl rfl rfl rfl]; simp only [slim, slimO, annO, List.map, List.zip, List.zipWith, List.lookup, holed, Nat.reduceBEq]
      simp [List.replicate, hR, hC, hF, hN, hM, c0, d0, hw1, hD]
      refine code_fin (cs := delCells 3 i wordZ cs) hB ?_ ?_ q1 (by simp; omega) ?_ ?_
      · rw [hlow_hset' _ _ _ _ q1]; exact hlb _
      · rw [hget_hset_same, hib]; rfl
      · have e1 : (cs.take (3 * i)).map (·.1) = flats (encWs (ws.take i)) := by
          rw [List.map_take, hcs, Nat.mul_comm 3 i, flats_take i encWs_flat]
          congr 1; simp [encWs]
        have e2 : (cs.drop (3 * (i + 1))).map (·.1) = flats (encWs (ws.drop (i + 1))) := by
          rw [List.map_drop, hcs, Nat.mul_comm 3 (i + 1), flats_drop (i + 1) encWs_flat]
          congr 1; simp [encWs]
        unfold delCells
        rw [unown_fst, e1, e2, encWs_app, flats_app, List.take_left']
        rw [← flats_app, ← encWs_app, flats_len encWs_flat, encWs_len]
        congr 1; simp; omega
      · simp only [delCells, unown_len, List.length_append, List.length_map, List.length_take, List.length_drop, hcl]; simp [wordZ]; omega
    · by_cases d1 : nextF l (a1 + 2) 4 = 1
      · have hO := odd_R l (a1 + 3) 1 9 s ro n1 _ ⟨by omega, by omega⟩ (by omega) (by omega) (by omega) hl (hsb (a1 + 3)) hro
        rw [hset_hset, show a1 + 3 + 2 = a1 + 5 by omega] at hO
        have hP := pick_R l (a1 + 5) [0, 0, 5] s ro n1 _ ⟨by omega, by omega⟩ (by simp) hl (hsb (a1 + 5)) hro
        rw [hset_hset, show a1 + 5 + 1 = a1 + 6 by omega] at hP
        simp only [ints', List.map_cons, List.map_nil] at hP
        generalize (oddF l (a1 + 3) 1 9).1 = o at hO
        generalize pickF l (a1 + 5) [0, 0, 5] = p at hP
        have hg' : hget ((n1, .cells [(.int .i64 o, false), (.int .i64 p, false), (.str ByteArray.empty, false)]) :: hset h1 s (strm l (a1 + 6))) id = some (.cells cs) := by rw [hget_old (by omega)]; exact hib _
        have hap := apM_sl hg' ro 32 3 true true false (.tmp 32) (n1 + 1) ws.length 3 1 [AVal.int .i64 o, .int .i64 p, .str ByteArray.empty]
        rw [if_pos ⟨hroi, rfl, by omega, by omega⟩] at hap
        refine ⟨ws ++ [⟨o, p, ByteArray.empty⟩], a1 + 6, ?_, by omega, by omega⟩
        rw [R_tidy' K ro 6 _ nx hp [] Tryz.func6 rfl Tryz.ntmps6 Tryz.results6 (mu := [30]) rfl (by kernel_rfl) rfl rfl rfl rfl]; simp only [slim, slimO, annO, List.map, List.zip, List.zipWith, List.lookup, holed, Nat.reduceBEq]
        simp [List.replicate, hR, hC, hF, hN, hM, c0, d0, d1, hO, hP, hap]
        have e1 : (cs.take (ws.length * 3)).map (·.1) = flats (encWs ws) := by rw [List.map_take, hcs, List.take_of_length_le (by omega)]
        refine code_fin (cs := unown ((cs.take (ws.length * 3)).map (·.1) ++ [AVal.int .i64 o, .int .i64 p, .str ByteArray.empty])) hB ?_ ?_ (show nx ≤ n1 + 1 by omega) (by simp) ?_ ?_
        · rw [hlow_cons, if_neg (by omega), hlow_hdel' _ _ _ q1, hlow_cons, if_neg (by omega)]; exact hlb _
        · rw [hget_same]; simp [unown]
        · rw [unown_fst, e1, encWs_app, flats_app, List.take_of_length_le]
          · rfl
          · simp [hfl]; omega
        · simp [unown, hcl]; omega
      · by_cases d2 : nextF l (a1 + 2) 4 = 2
        · have hO := odd_R l (a1 + 3) 0 999 s ro n1 _ ⟨by omega, by omega⟩ (by omega) (by omega) (by omega) hl (hsb (a1 + 3)) hro
          rw [hset_hset, show a1 + 3 + 2 = a1 + 5 by omega] at hO
          generalize (oddF l (a1 + 3) 0 999).1 = o at hO
          have hin3 : i * 3 + 1 + 1 ≤ cs.length := by omega
          refine ⟨ws.set i ⟨ws[i].op, o, ws[i].name⟩, a1 + 5, ?_, by omega, by omega⟩
          rw [R_tidy' K ro 6 _ nx hp [] Tryz.func6 rfl Tryz.ntmps6 Tryz.results6 (mu := [30]) rfl (by kernel_rfl) rfl rfl rfl rfl]; simp only [slim, slimO, annO, List.map, List.zip, List.zipWith, List.lookup, holed, Nat.reduceBEq]
          simp [List.replicate, hR, hC, hF, hN, hM, c0, d0, d1, d2, hO, hib, hin, hin3, hroi]
          refine code_fin (cs := cs.set (i * 3 + 1) (.int .i64 o, false)) hB ?_ ?_ q1 (by simp) ?_ ?_
          · rw [hlow_hset' _ _ _ _ q1]; exact hlb _
          · rw [hget_hset_same, hib]; rfl
          · rw [List.map_set, hcs, flat_set1 ws i ws[i] o hwi, List.take_of_length_le]
            rw [flats_len encWs_flat, encWs_len]; simp
          · simp; omega
        · have hS := some_R l (a1 + 3) [ByteArray.empty, ⟨#[120]⟩, ⟨#[105, 102]⟩] s ro n1 _ ⟨by omega, by omega⟩ (by simp) hl (hsb (a1 + 3)) hro
          rw [hset_hset, show a1 + 3 + 1 = a1 + 4 by omega] at hS
          simp only [strs, List.map_cons, List.map_nil] at hS
          generalize someF l (a1 + 3) _ = o at hS
          have hin3 : i * 3 + 2 + 1 ≤ cs.length := by omega
          have he0 : (⟨#[]⟩ : ByteArray) = ByteArray.empty := rfl
          refine ⟨ws.set i ⟨ws[i].op, ws[i].n, o⟩, a1 + 4, ?_, by omega, by omega⟩
          rw [R_tidy' K ro 6 _ nx hp [] Tryz.func6 rfl Tryz.ntmps6 Tryz.results6 (mu := [30]) rfl (by kernel_rfl) rfl rfl rfl rfl]; simp only [slim, slimO, annO, List.map, List.zip, List.zipWith, List.lookup, holed, Nat.reduceBEq]
          simp [List.replicate, hR, hC, hF, hN, hM, c0, d0, d1, d2, hS, hib, hin, hin3, hroi, he0]
          refine code_fin (cs := cs.set (i * 3 + 2) (.str o, false)) hB ?_ ?_ q1 (by simp) ?_ ?_
          · rw [hlow_hset' _ _ _ _ q1]; exact hlb _
          · rw [hget_hset_same, hib]; rfl
          · rw [List.map_set, hcs, flat_set2 ws i ws[i] o hwi, List.take_of_length_le]
            rw [flats_len encWs_flat, encWs_len]; simp
          · simp; omega
  · refine ⟨ws, a1 + 1, ?_, by omega, by omega⟩
    rw [R_tidy' K ro 6 _ nx hp [] Tryz.func6 rfl Tryz.ntmps6 Tryz.results6 (mu := [30]) rfl (by kernel_rfl) rfl rfl rfl rfl]; simp only [slim, slimO, annO, List.map, List.zip, List.zipWith, List.lookup, holed, Nat.reduceBEq]
    simp [List.replicate, hR, hC, hF, c0]
    exact code_fin hB (hlb _) (hib _) q1 rfl (by rw [hcs, List.take_of_length_le (by omega)]) (by omega)
end Go.Proofs.YtkpfkadjmijmlaaGreatDoor.M
/- The law CodesDone, run by the machine. -/
namespace Go.Proofs.YtkpfkadjmijmlaaGreatDoor.M
open Go.Proofs Go.Proofs.YtkpfkadjmijmlaaGreatDoor.X
set_option linter.unusedSimpArgs false
set_option linter.unusedVariables false
set_option maxRecDepth 100000
set_option pp.deepTerms false
set_option pp.deepTerms.threshold 6
set_option maxHeartbeats 4000000
theorem orTwo (a b : Int) : orF [a, b] = if a ≠ 0 then a else b := by
  by_cases h : a = 0
  · by_cases h2 : b = 0 <;> simp [orF, h, h2]
  · simp [orF, h]
theorem orTwo_R (a b : Int) (ro nx : Nat) (hp : Heap) : R K 14 [.lst [.int .i64 a, .int .i64 b]] ro nx hp = some ⟨.int .i64 (if a ≠ 0 then a else b), false, nx, hp⟩ := by
  have := or_R [a, b] (by simp) ro nx hp
  rw [orTwo] at this
  exact this
theorem backE_self {c : List Wd} (ro nx : Nat) (hp : Heap) : R K 21 [encX (backE c), encX (backE c)] ro nx hp = some ⟨.bool true, false, nx, hp⟩ := by
  unfold backE
  by_cases h : exF (backX c) 1 = 0
  · rw [if_neg (by simpa using h)]; exact self_R h ro nx hp
  · rw [if_pos h]; exact selfZ_R ro nx hp
theorem law_R (l : List Int) (hl : l.length < 4611686018427387904) (ro nx : Nat) (hp : Heap) : R K 3 [.lst (ints' l)] ro nx hp = some ⟨.bool true, false, nx, hp⟩ := by
  have hB : Base 1 [(0, strm l 0)] := by constructor <;> simp [hlow, hclean, strm]
  obtain ⟨x, a1, hx, ha1, ha1'⟩ := anExpr_R l 0 0 0 1 [(0, strm l 0)] (by omega) (by omega) hl (by simp) (by omega) hB
  have hx' : hset [(0, strm l 0)] 0 (strm l a1) = [(0, strm l a1)] := by simp [hset]
  rw [hx'] at hx
  have hB1 : Base 1 [(0, strm l a1)] := by constructor <;> simp [hlow, hclean, strm]
  obtain ⟨c, a2, hc, ha2, ha2'⟩ := anCode_R l a1 0 0 1 [(0, strm l a1)] (by omega) (by omega) hl (by simp) (by omega) hB1
  have hc' : hset [(0, strm l a1)] 0 (strm l a2) = [(0, strm l a2)] := by simp [hset]
  rw [hc'] at hc
  have hB2 : Base 1 [(0, strm l a2)] := by constructor <;> simp [hlow, hclean, strm]
  obtain ⟨y, a3, own, hy, ha3, ha3'⟩ := varList_R l a2 0 0 1 [(0, strm l a2)] (by omega) (by omega) hl (by simp) (by omega) hB2
  have hy' : hset [(0, strm l a2)] 0 (strm l a3) = [(0, strm l a3)] := by simp [hset]
  rw [hy'] at hy
  have he0 : (⟨#[]⟩ : ByteArray) = ByteArray.empty := rfl
  have hst : ABlk.cells [(.lst (ints' l), false), (.int .i64 0, false)] = strm l 0 := rfl
  have hor := orTwo_R
  have hva := valued_R
  have hef := exprFaultQ_R x
  have hcf := codeFault_R c
  have hco := vCode_R x
  have hsk := vStack_R x
  have hba := back_R c
  have hex := exec_R c y
  have hse := backE_self (c := c)
  have hsz := selfZ_R
  have heq0 := equalWN_R
  rw [encX_eq x] at hx hef hco hsk
  rw [encX_eq (backE c)] at hse
  rw [encX_eq exZ] at hsz
  simp only [exZ_op, exZ_n, exZ_name, exZ_args, encXs] at hsz
  have hxr : exF x 1 = 0 → ∀ (B2 B3 : ABlk), ∃ (id n' : Nat) (hp' : Heap), R K 16 [.agg [.int .i64 x.op, .int .i64 x.n, .str x.name, .lst (encXs x.args)]] 0 4 [(3, B3), (2, B2), (1, boxX x), (0, strm l a3)] = some ⟨.sl id 0 (partsX x).length 3 true, false, n', hp'⟩ ∧ 4 ≤ id ∧ id < n' ∧ hget hp' 1 = some (boxX x) ∧ hget hp' 2 = some B2 ∧ hget hp' 3 = some B3 ∧ hget hp' id = some (.cells (unown (flats (encWs (wordsX (partsX x)))))) := by
    intro c1 B2 B3
    obtain ⟨id, n', hp', hC, p1, p2, p3, p4, _⟩ := codeOf_R c1 0 4 [(3, B3), (2, B2), (1, boxX x), (0, strm l a3)] (by omega)
    rw [wordsX_len, encX_eq] at hC
    exact ⟨id, n', hp', hC, p1, p2, (p4 1 (by omega)).trans (by simp), (p4 2 (by omega)).trans (by simp), (p4 3 (by omega)).trans (by simp), p3⟩
  have hws := wordsX_len (partsX x)
  have hcnt : exF x 1 = 0 → (partsX x).length ≤ 2000000000 := fun c1 => by have := cnt_bound c1 (by decide); omega
  have hsr : exF x 1 = 0 → ∀ (ro nx : Nat) (hp : Heap), R K 17 [.agg [.int .i64 x.op, .int .i64 x.n, .str x.name, .lst (encXs x.args)]] ro nx hp = some ⟨.int .i64 (stackX x), false, nx, hp⟩ := fun c1 ro nx hp => by
    have := stackOf_R _ x 1 (Nat.lt_succ_self _) (by decide) c1 ro nx hp
    rwa [encX_eq] at this
  simp only [boxX] at hxr
  generalize wordsX (partsX x) = ws at hxr hws hco
  rw [← hws] at hxr hcnt
  generalize stackX x = sk at hsk hsr
  by_cases c2 : codeF c = 0
  · have hbo := backOf_R c2
    simp only [c2, if_true] at hba
    generalize backE c = B at hba hbo hse
    generalize exF (backX c) 1 = f at hba hbo
    by_cases c3 : slF y = 0
    · have heo := fun ro nx hp => execOf_R c2 c3 ro nx hp
      simp only [execF, c2, c3, ne_eq, not_true_eq_false, if_false, if_true] at hex
      by_cases c1 : exF x 1 = 0
      · obtain ⟨id, n', hp', hC, p1, p2, f1, f2, f3, f4⟩ := hxr c1 (.cells [(.int .i64 B.op, false), (.int .i64 B.n, false), (.str B.name, false), (.lst (encXs B.args), false)]) (.cells [(.int .i64 0, false), (.int .i64 0, false), (.str ByteArray.empty, false), (.lst [], true)])
        have hEq := fun ro => equalW_R (hp := hset hp' 3 (.cells [(.int .i64 B.op, false), (.int .i64 B.n, false), (.str B.name, false), (.lst (encXs B.args), false)])) (by rw [hget_hset, if_neg (by omega)]; exact f4) (hcnt c1) ro n' p2
        have hsr' := hsr c1
        simp only [c1, ne_eq, not_true_eq_false, if_true, if_false] at hco hsk
        rw [R_val' K ro 3 _ nx hp [(13, [[], [1], [1], [], [], []])] Tryz.func3 rfl Tryz.ntmps3 Tryz.results3 (mu := []) rfl (by kernel_rfl) rfl rfl rfl]; simp only [slim, slimO, annO, List.map, List.zip, List.zipWith, List.lookup, holed, Nat.reduceBEq]
        cases own <;> simp (maxSteps := 2000000) [List.replicate, List.lookup, stayB, hst, hx, hc, hy, he0, hef, hcf, hco, hsk, hba, hex, hor, hbo, heo, hse, hC, hsr', f1, f2, f3, hEq, c1, c2, c3, hva]
      · simp only [c1, ne_eq, not_false_eq_true, if_true, if_false] at hco hsk
        rw [R_val' K ro 3 _ nx hp [(13, [[], [1], [1], [], [], []])] Tryz.func3 rfl Tryz.ntmps3 Tryz.results3 (mu := []) rfl (by kernel_rfl) rfl rfl rfl]; simp only [slim, slimO, annO, List.map, List.zip, List.zipWith, List.lookup, holed, Nat.reduceBEq]
        cases own <;> simp (maxSteps := 2000000) [List.replicate, List.lookup, stayB, hst, hx, hc, hy, he0, hef, hcf, hco, hsk, hba, hex, hor, hbo, heo, hse, heq0, c1, c2, c3, hva]
    · simp only [execF, c2, c3, ne_eq, not_true_eq_false, if_false, if_true] at hex
      by_cases c1 : exF x 1 = 0
      · obtain ⟨id, n', hp', hC, p1, p2, f1, f2, f3, f4⟩ := hxr c1 (.cells [(.int .i64 B.op, false), (.int .i64 B.n, false), (.str B.name, false), (.lst (encXs B.args), false)]) (.cells [(.int .i64 0, false), (.int .i64 0, false), (.str ByteArray.empty, false), (.lst [], true)])
        have hEq := fun ro => equalW_R (hp := hset hp' 3 (.cells [(.int .i64 B.op, false), (.int .i64 B.n, false), (.str B.name, false), (.lst (encXs B.args), false)])) (by rw [hget_hset, if_neg (by omega)]; exact f4) (hcnt c1) ro n' p2
        have hsr' := hsr c1
        simp only [c1, ne_eq, not_true_eq_false, if_true, if_false] at hco hsk
        rw [R_val' K ro 3 _ nx hp [(13, [[], [1], [1], [], [], []])] Tryz.func3 rfl Tryz.ntmps3 Tryz.results3 (mu := []) rfl (by kernel_rfl) rfl rfl rfl]; simp only [slim, slimO, annO, List.map, List.zip, List.zipWith, List.lookup, holed, Nat.reduceBEq]
        cases own <;> simp (maxSteps := 2000000) [List.replicate, List.lookup, stayB, hst, hx, hc, hy, he0, hef, hcf, hco, hsk, hba, hex, hor, hbo, hse, hC, hsr', f1, f2, f3, hEq, c1, c2, c3, hva]
      · simp only [c1, ne_eq, not_false_eq_true, if_true, if_false] at hco hsk
        rw [R_val' K ro 3 _ nx hp [(13, [[], [1], [1], [], [], []])] Tryz.func3 rfl Tryz.ntmps3 Tryz.results3 (mu := []) rfl (by kernel_rfl) rfl rfl rfl]; simp only [slim, slimO, annO, List.map, List.zip, List.zipWith, List.lookup, holed, Nat.reduceBEq]
        cases own <;> simp (maxSteps := 2000000) [List.replicate, List.lookup, stayB, hst, hx, hc, hy, he0, hef, hcf, hco, hsk, hba, hex, hor, hbo, hse, heq0, c1, c2, c3, hva]
  · simp only [c2, if_false, exZ_op, exZ_n, exZ_name, exZ_args, encXs] at hba
    simp only [execF, c2, ne_eq, not_false_eq_true, if_false, if_true] at hex
    by_cases c1 : exF x 1 = 0
    · obtain ⟨id, n', hp', hC, p1, p2, f1, f2, f3, f4⟩ := hxr c1 (.cells [(.int .i64 0, false), (.int .i64 0, false), (.str ByteArray.empty, false), (.lst [], false)]) (.cells [(.int .i64 0, false), (.int .i64 0, false), (.str ByteArray.empty, false), (.lst [], true)])
      have hEq := fun ro => equalW_R (hp := hp') f4 (hcnt c1) ro n' p2
      have hsr' := hsr c1
      simp only [c1, ne_eq, not_true_eq_false, if_true, if_false] at hco hsk
      rw [R_val' K ro 3 _ nx hp [(13, [[], [1], [1], [], [], []])] Tryz.func3 rfl Tryz.ntmps3 Tryz.results3 (mu := []) rfl (by kernel_rfl) rfl rfl rfl]; simp only [slim, slimO, annO, List.map, List.zip, List.zipWith, List.lookup, holed, Nat.reduceBEq]
      cases own <;> simp (maxSteps := 2000000) [List.replicate, List.lookup, stayB, hst, hx, hc, hy, he0, hef, hcf, hco, hsk, hba, hex, hor, hsz, hC, hsr', f1, f2, f3, hEq, c1, c2, hva]
    · simp only [c1, ne_eq, not_false_eq_true, if_true, if_false] at hco hsk
      rw [R_val' K ro 3 _ nx hp [(13, [[], [1], [1], [], [], []])] Tryz.func3 rfl Tryz.ntmps3 Tryz.results3 (mu := []) rfl (by kernel_rfl) rfl rfl rfl]; simp only [slim, slimO, annO, List.map, List.zip, List.zipWith, List.lookup, holed, Nat.reduceBEq]
      cases own <;> simp (maxSteps := 2000000) [List.replicate, List.lookup, stayB, hst, hx, hc, hy, he0, hef, hcf, hco, hsk, hba, hex, hor, hsz, heq0, c1, c2, hva]
end Go.Proofs.YtkpfkadjmijmlaaGreatDoor.M
/- The law holds. -/
namespace Go.Proofs.YtkpfkadjmijmlaaGreatDoor.M
open Go.Proofs Go.Proofs.YtkpfkadjmijmlaaGreatDoor.X Go.RowKit
set_option maxRecDepth 100000
theorem names_ok : (Tryz.prog).funcs.all (fun fn => fn.name != "runtime.NumGoroutine") = true := by kernel_rfl
theorem R_ok : GoodCall Tryz.prog (R K) := R_right K ext_good ext_safe ext_ft fun f fn hf => by
  have := Array.all_eq_true'.1 names_ok fn (Array.mem_of_getElem? hf)
  simpa using this
theorem law_calls {xs : List Int} (hl : xs.length < 4611686018427387904) {W : World} {a : Option Addr} {cap : Nat} (hcap : xs.length ≤ cap) (hc : ∀ (i : Nat) p, xs[i]? = some p → ∃ x, a = some x ∧ W.cell? (x.add i) = some (.int .i64 p)) :
    Calls Tryz.prog 3 #[.slice a xs.length cap] W fun e w' => e = .returned (.bool true) ∧ Below W.heap.size W w' :=
  law_holds K R_ok (f := 3) Tryz.func3 rfl (by decide) (law_R xs hl 0 0 []) hcap hc
end Go.Proofs.YtkpfkadjmijmlaaGreatDoor.M
/- CodesDone: Code, Back, Exec and Stack do as the reference says, whatever numbers the inputs are drawn from. No condition beside the card's own. -/
namespace Go.Proofs.YtkpfkadjmijmlaaGreatDoor.codesDone
open Go.ChangeShapes Go.WideShapes Go.ChangeAt Go.RowKit Go.Lib

theorem own : ownKnob Tryz.prog.godebug = none := by kernel_rfl
theorem laidOut : laidOutB Tryz.prog = true := by kernel_rfl
/-- A world for the witness: the settled one, the two tables as their initialisers lay them. -/
noncomputable def laidWorld (os : Os) : World :=
  let w0 := World.holding Tryz.prog os ⟨#[], #[], []⟩
  let put (h : Array Obj) (g : Nat) (cs : Array Value) : Array Obj := h.modify g fun
    | .cells _ t frozen => .cells cs t frozen
    | o => o
  let h1 := put w0.heap 4 (Lib.firstTab.map fun z => Value.int .u8 z).toArray
  let h2 := put h1 5 ((List.range 16).flatMap fun i => [Value.int .u8 (Lib.accLo i), Value.int .u8 (Lib.accHi i)]).toArray
  { w0 with heap := h2 }
theorem laid_met (os : Os) (args : Array Value) : laidMet Tryz.prog Rows.codesDoneRow.laid ((laidWorld os).forCall (fun _ _ => 0) ⟨#[], args, []⟩).memory :=
  (LaidIn.of_run (l := [("unicode/utf8.acceptRanges", Rows.laid_unicode_utf8_acceptRanges), ("unicode/utf8.first", Rows.laid_unicode_utf8_first)]) [5, 4] 8 (by kernel_rfl) (by kernel_rfl) (by kernel_rfl) (by kernel_rfl)).met
theorem witness_row (os : Os) {H : Type} (enc : TypeId × Value → H) :
    (OpenSpec.ofChange Rows.codesDoneSpec).preRow enc Tryz.prog Tryz.f3 Rows.codesDoneRow.domain false Rows.codesDoneRow.laid ((laidWorld os).forCall (fun _ _ => 0) ⟨#[], #[.slice none 0 0], []⟩).memory #[.slice none 0 0] := by
  have hw : (DataW.whole enc Tryz.prog ((laidWorld os).forCall (fun _ _ => 0) ⟨#[], #[.slice none 0 0], []⟩).memory Tryz.f3.params.toList Rows.codesDoneSpec.vars false #[Value.slice none 0 0].toList 8).map (fun x => (x.1, x.2.1)) =
      some ([.nil], []) := by kernel_rfl
  obtain ⟨⟨x1, x2, x3⟩, hx, hx1⟩ := Option.map_eq_some_iff.1 hw
  simp only [Prod.mk.injEq] at hx1
  obtain ⟨rfl, rfl⟩ := hx1
  exact OpenSpec.preRow_of_cond 8 hx (by kernel_rfl) (fun k hk => by cases hk) (by kernel_rfl) (laid_met os _)

/-- The argument's numbers, as the walk's words have them. -/
theorem row_of_trod {H : Type} {enc : TypeId × Value → H} {W : World} {base : Nat} {spare : Nat → Bool} {held : Bool} {a : Option Addr} {len cap : Nat} {d : DataW H} {ps : List MemPlace} {ts : List TypeId} {ds : List (DataW H)} {j : Nat}
    (hsz : (DataW.weightsEach Tryz.prog ts ds).all (· ≤ reachBytes) = true) (ht : ts[j]? = some 22) (hd : ds[j]? = some d) (h : DataW.Trod enc Tryz.prog W base spare held 22 (.slice a len cap) d ps) :
    ∃ xs : List Int, xs.length = len ∧ xs.length ≤ cap ∧ xs.length < 4611686018427387904 ∧ ∀ (i : Nat) p, xs[i]? = some p → ∃ x, a = some x ∧ W.cell? (x.add i) = some (.int .i64 p) := by
  obtain ⟨fuel, hf⟩ := h
  rcases open_ints Tryz.underlying22 Tryz.underlying3 (by kernel_rfl) hf with ⟨hcs, _⟩ | ⟨x, l, c, zs, hcs, _, hl, _, hz, hx, hcell, _⟩
  · simp [Value.cells] at hcs
    obtain ⟨rfl, rfl, rfl⟩ := hcs
    exact ⟨[], rfl, Nat.le_refl _, by decide, fun i p h => by simp at h⟩
  · simp [Value.cells] at hcs
    obtain ⟨rfl, rfl, rfl⟩ := hcs
    obtain ⟨hx, _⟩ := Prod.mk.inj hx
    subst hx
    have z := sized_slice hsz ht hd Tryz.underlying22
    rw [show Tryz.prog.bytesOf 3 = 8 by kernel_rfl] at z
    have hl2 : len ≤ zs.length := by
      rw [hz]
      split
      · exact hl
      · exact Nat.le_refl _
    have hlen : (zs.take len).length = len := by rw [List.length_take]; omega
    have h1 : (lits (H := H) .i64 (zs.take len)).length + (lits (H := H) .i64 (zs.drop len)).length = zs.length := by
      simp [lits]
      omega
    rw [h1] at z
    have hr := reachBytes_lt
    refine ⟨zs.take len, hlen, by omega, by omega, fun i p hi => ⟨x, rfl, ?_⟩⟩
    have hi' : i < len := by rw [← hlen]; exact (List.getElem?_eq_some_iff.1 hi).1
    have hc := hcell i (by omega)
    rw [List.getElem?_take, if_pos hi'] at hi
    rw [List.getD_eq_getElem?_getD, hi] at hc
    simpa using hc

set_option maxRecDepth 100000 in
theorem lifted (os : Os) (started : os.Started) (H : Type) (enc : TypeId × Value → H) (F : Stop.Interp) :
    ReturnsInHanded {} Tryz.checked os 3 .any ((OpenSpec.ofChange Rows.codesDoneSpec).preRow enc Tryz.prog Tryz.f3 Rows.codesDoneRow.domain false Rows.codesDoneRow.laid) (((OpenSpec.ofChange Rows.codesDoneSpec).at F).post enc Tryz.prog Tryz.f3 false true false false) := by
  refine returnsInHanded_of_row (C := Tryz.checked) (s := OpenSpec.ofChange Rows.codesDoneSpec) own started (by kernel_rfl) Tryz.func3
    (witness_row_atRef (enc := enc) (C := Tryz.checked) false (laidWorld os) #[.slice none 0 0] rfl (by kernel_rfl) (by kernel_rfl) (by kernel_rfl) (witness_row os enc)) ?_
  intro W base args ds gs before hval0 hW _ _ hsz0 _ _ _
  have hsz : (DataW.weightsEach Tryz.prog (Tryz.f3.params.toList ++ Rows.codesDoneSpec.plain.varTypes Tryz.prog) (ds ++ gs)).all (· ≤ reachBytes) = true := hsz0
  have hval : ∀ (j : Nat) t v, Tryz.f3.params[j]? = some t → args[j]? = some v → Value.okWide Tryz.prog W .any base t v := hval0
  have hW' := hW
  obtain ⟨p, q, hA0, hV, rfl, hfz, hnd⟩ := hW
  have hA : DataW.TrodAll enc Tryz.prog W 0 (fun _ => true) true Tryz.f3.params.toList args.toList ds p := hA0
  rw [Tryz.params3] at hA hval hsz
  obtain ⟨v0, vs0, d0, ds0, p0, q0, hargs, rfl, rfl, h0, r0⟩ := trodAll_cons hA
  obtain ⟨rfl, rfl, rfl⟩ := trodAll_nil r0
  obtain rfl : args = #[v0] := by cases args; simp_all
  obtain ⟨rfl, rfl⟩ := trodVars_none hV
  obtain ⟨a0, len0, cap0, rfl⟩ := okWide_slice Tryz.underlying22 (hval 0 22 v0 rfl rfl)
  have k0 := h0
  have lt0 : ∀ x ∈ p0, x.block < W.heap.size := by obtain ⟨m, hm⟩ := k0; exact DataW.trod_lt m _ _ _ hm
  obtain ⟨xs, rfl, hc, hl, hr⟩ := row_of_trod hsz (j := 0) rfl rfl h0
  clear hA0 hval0 hsz0 hsz
  refine (M.law_calls hl hc hr).mono fun e W' ⟨he, bel⟩ => ?_
  subst he
  exact ⟨_, rfl, _, _, _, [], _, [], hW', trodAll_mk1 (shut_bool Tryz.underlying4 _), (trodAll_cons_mk (Below.trod laidOut (by kernel_rfl) (of_decide_eq_true (by kernel_rfl)) k0 bel lt0) trodAll_mk0), rfl, bel.frame _, fun h => by cases h⟩

set_option maxHeartbeats 400000000 in
theorem closed : joinedFacts Tryz.pinned.checked.prog 3 Tryz.f3 (OpenSpec.ofChange Rows.codesDoneSpec).bare Rows.codesDoneRow = true := by
  simp only [joinedFacts, Bool.and_eq_true]
  repeat' apply And.intro
  all_goals as_aux_lemma => kernel_rfl
theorem said : Rows.CodesDoneSaid :=
  OpenClaim.holds_of_cond 3 Tryz.f3 rfl rfl rfl rfl rfl rfl rfl ⟨rfl, rfl, rfl, rfl, rfl⟩ rfl rfl rfl rfl rfl (by as_aux_lemma => kernel_rfl) Tryz.func3 closed
    (of_decide_eq_true (by as_aux_lemma => kernel_rfl)) (by unfold Func.isWrapper; first | (rw [if_pos (by decide +kernel)]; kernel_rfl) | (rw [if_neg (by decide +kernel)]; exact ⟨rfl, rfl⟩))
    (fun os started H enc _ F => by rw [OpenClaim.pre_eq_preRow]; exact lifted os started H enc F)

/-- No parameter wants a stand-in; the program's own looks are on: what the card asks. -/
theorem plain (f : FuncId) (fn : Func) (hf : Tryz.pinned.checked.prog.funcNamed "promptbook/pblaw1.CodesDone" = some f) (hfn : Tryz.pinned.checked.prog.funcs[f]? = some fn) :
    true = Tryz.pinned.checked.prog.looks [] ∧ ∀ (j : Nat) t, fn.params[j]? = some t → Tryz.pinned.checked.prog.wantsStandIn t = false := by
  obtain rfl : f = 3 := Option.some.inj ((show Tryz.prog.funcNamed "promptbook/pblaw1.CodesDone" = some 3 by kernel_rfl).symm.trans hf) |>.symm
  obtain rfl : fn = Tryz.f3 := (Option.some.inj (Tryz.func3.symm.trans hfn)).symm
  refine ⟨by as_aux_lemma => kernel_rfl, fun j t ht => ?_⟩
  rw [Tryz.params3] at ht
  obtain rfl : t = 22 := by simpa using Array.mem_of_getElem? ht
  exact (show Tryz.prog.wantsStandIn 22 = false by kernel_rfl)
end Go.Proofs.YtkpfkadjmijmlaaGreatDoor.codesDone
namespace Go.Proofs.YtkpfkadjmijmlaaGreatDoor
/-- The card of CodesDone. -/
theorem codesDone_card : Rows.CodesDoneCardSaid :=
  Claim7.holds_tied_plain_at .later [] _ _ _ _ codesDone.said (fun _ h => by cases h) (by as_aux_lemma => kernel_rfl) (fun _ h => by cases h) codesDone_row_tie rfl ⟨rfl, rfl⟩ (by as_aux_lemma => kernel_rfl) rfl codesDone.plain (by as_aux_lemma => kernel_rfl)
#print axioms codesDone_card
end Go.Proofs.YtkpfkadjmijmlaaGreatDoor
