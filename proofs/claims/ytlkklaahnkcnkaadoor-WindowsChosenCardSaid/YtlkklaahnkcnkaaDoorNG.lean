/- The reference's worst fates: pbref1.WorstOf. -/
import Derived.Test.YtlkklaahnkcnkaaDoorNF
import Derived.Deep.RegionHeldLaw
namespace Go.Proofs.YtlkklaahnkcnkaaDoor.X
open Go.RowKit

theorem Row.far {α : Type} {d : Kn α} {w : World} {ok : Nat → Prop} {A : Option Addr} {xs : List α} (h : Row d w ok A xs) {p : Addr} (hp : ¬ ok p.block) (u : Value) : Row d (w.setCell p u) ok A xs := h.step fun k ho _ => Below.heap_setCell w p u k (by rintro rfl; exact hp ho)
theorem reps_ints (w : World) (ok : Nat → Prop) (xs : List Int) : Reps (kInt.V w ok) kInt.sz xs (xs.map (Value.int .i64)) := by
  refine ⟨by simp [kInt, scal], fun j p hj => ?_⟩
  show _ = [Value.int .i64 p]
  have hl : j < (xs.map (Value.int .i64)).length := by rw [List.length_map]; exact (List.getElem?_eq_some_iff.1 hj).1
  have he : (xs.map (Value.int .i64))[j] = Value.int .i64 p := by rw [List.getElem_map]; rw [(List.getElem?_eq_some_iff.1 hj).2]
  show ((xs.map (Value.int .i64)).drop (j * 1)).take 1 = _
  rw [Nat.mul_one, List.drop_eq_getElem_cons hl, he]
  rfl
/-- An owned row of numbers, as a row. -/
theorem own_ints {w : World} {base n : Nat} {v : Value} {xs : List Int} (h : w.ownsRow base 3 1 v n (xs.map (Value.int .i64))) (hn : n = xs.length) (hl : xs.length ≤ 140737488355328) : ∃ A c, v = .slice A n c ∧ n ≤ c ∧ (A = none → c = 0) ∧ Row kInt w (fun k => base ≤ k) A xs := by
  subst hn
  have hO : Own kInt 3 w base (fun k => base ≤ k) v xs := ⟨hl, fun k hk => own_base h k hk, _, h, reps_ints _ _ _⟩
  obtain ⟨A, c, rfl, hc, hr⟩ := hO.row
  refine ⟨A, c, rfl, hc, ?_, hr⟩
  rintro rfl
  rcases h.2 with ⟨e, _⟩ | ⟨g, cap, cur, e, _⟩
  · injection e
  · cases e
theorem cloneInts_calls (A : Option Addr) (c : Nat) (xs : List Int) (w : World) (hr : Row kInt w (fun _ => True) A xs) (hl : xs.length ≤ 1000000) :
    Calls Tryd.prog 67 #[.slice A xs.length c] w fun e w' => ∃ v, e = .returned v ∧ w'.ownsRow w.heap.size 3 1 v xs.length (xs.map (Value.int .i64)) ∧ Below w.heap.size w w' := by
  rcases Nat.eq_zero_or_pos xs.length with h0 | h0
  · obtain rfl : xs = [] := List.eq_nil_of_length_eq_zero h0
    cases A with
    | none =>
      refine (Tryd.slices_Clone_int_nil 0 c w).mono ?_
      rintro e w' ⟨rfl, rfl⟩
      exact ⟨_, rfl, World.ownsRow_nil _ _ _ 1, Below.refl _ _⟩
    | some a =>
      refine (Tryd.slices_Clone_int_zero a c w).mono ?_
      rintro e w' ⟨v, rfl, h, _, hb⟩
      exact ⟨v, rfl, h, hb⟩
  · obtain ⟨b, off, rfl, -, hc⟩ := hr.plain h0 0
    refine (Tryd.slices_Clone_int b off xs.length c xs w (Nat.le_refl _) (by omega) hc).mono ?_
    rintro e w' ⟨v, rfl, h, _, hb⟩
    rw [List.take_length] at h
    exact ⟨v, rfl, h, hb⟩
section
variable {P : Program} {ops : Array Oper} {rest : List Oper} {o : Oper} {a : Act} {Q : Exit → Act → World → Prop} {K : Act → World → Prop} {E : Prop}
/-- append(v, 1), v the call's own, in a region that draws its order. -/
theorem step_append_one {W : World} {base n g : Nat} {s x : Operand} {v : Value} {xs : List Int} (HO : W.ownsRow base 3 1 v n (xs.map (Value.int .i64))) (hcell : W.cell? ⟨g, 0, none⟩ = some (.int .i64 1)) (hbase : base ≤ W.heap.size)
    (ht : P.underlying 22 = some (.slice 3)) (hinfo : (P.info? 3).map (fun i => (i.zero, i.size, i.bytes)) = some (some (.int .i64 0), 1, 8)) (hl : (n + 1) * 8 ≤ 140737488355328)
    (hgd : o.guard = none) (ho : o.op = .call { callee := .builtin .append, args := #[s, x], argTypes := #[22, 22] })
    (hs : a.eval s = v) (hx : a.eval x = .slice (some ⟨g, 0, none⟩) 1 1)
    (h : ∀ v1 w1, w1.ownsRow base 3 1 v1 (n + 1) ((xs ++ [1]).map (Value.int .i64)) → Below base W w1 → K (a.put o.dst v1) w1) :
    if Region.wanted o (yielded ops a.tmps) = true then Oper.wp P o a W K Q else E := by
  have hw : Region.wanted o (yielded ops a.tmps) = true := by simp [Region.wanted, hgd]
  rw [if_pos hw]
  obtain ⟨i0, hi, hzz⟩ := Option.map_eq_some_iff.1 hinfo
  simp only [Prod.mk.injEq] at hzz
  obtain ⟨hz0, hz1, hz2⟩ := hzz
  obtain ⟨v1, w1, hrun, hown, hg, hz, hat⟩ := run_append_own_at (P := P) W base 22 o.type 3 i0 (.int .i64 0) 1 8 ht hi hz0 hz1 hz2 rfl (by decide) v n _ HO ⟨g, 0, none⟩ 1 1 [.int .i64 1] rfl
    (by
      intro j u hj
      match j, hj with
      | 0, hj => obtain rfl : Value.int .i64 1 = u := by simpa using hj
                 exact hcell) (by intro u hu; rw [List.mem_singleton.1 hu]; rfl) (by simp only [maxLen]; omega) hl hbase
  unfold Oper.wp execOp
  simp only [ho, resolve, invoke, builtin, Sem.run_bind, Sem.run_pure, Result.andThen_ok, List.map_toArray, List.map_cons, List.map_nil, hs, hx, hrun]
  refine h v1 w1 (by rw [List.map_append]; exact hown) ?_
  exact (Below.refl base W).grown hg hbase (fun k hk => own_base HO k hk)
end
/-- What the closures of WorstOf share. -/
structure RS (w : World) (bl bw br bm bb bt many window : Nat) (st : Ws) : Prop where
  l : ∃ AL cl, Blk w bl #[.slice AL many cl] 26 ∧ (AL = none → cl = 0) ∧ many ≤ cl ∧ Row kLt w (fun k => k ≠ bm ∧ k ≠ bb) AL (noLts many)
  wd : Blk w bw #[.int .i64 window] 3
  r : ∃ T, Blk w br #[.func (.func 64) #[] #[.pointer (some ⟨bl, 0, none⟩), .pointer (some ⟨bw, 0, none⟩)]] T
  m : Blk w bm #[.int .i64 st.rounds] 3
  b : ∃ A c, Blk w bb #[.slice A st.best.length c] 22 ∧ st.best.length ≤ c ∧ (A = none → c = 0) ∧ Row kInt w (fun k => k ≠ bm ∧ k ≠ bb) A st.best
  t : ∃ T, Blk w bt #[.func (.func 65) #[] #[.pointer (some ⟨br, 0, none⟩), .pointer (some ⟨bm, 0, none⟩), .pointer (some ⟨bb, 0, none⟩), .pointer (some ⟨bt, 0, none⟩)]] T
  ne : bm ≠ bb ∧ (bl ≠ bm ∧ bl ≠ bb) ∧ (bw ≠ bm ∧ bw ≠ bb) ∧ (br ≠ bm ∧ br ≠ bb) ∧ bt ≠ bm ∧ bt ≠ bb
theorem RS.below {w w' : World} {bl bw br bm bb bt many window : Nat} {st : Ws} (h : RS w bl bw br bm bb bt many window st) (hb : Below w.heap.size w w') : RS w' bl bw br bm bb bt many window st := by
  obtain ⟨⟨AL, cl, l1, l2, l3, l4⟩, h2, ⟨T, h3⟩, h4, ⟨A, c, b1, b2, b3, b4⟩, ⟨T', h6⟩, h7⟩ := h
  exact ⟨⟨AL, cl, l1.below hb, l2, l3, l4.below hb⟩, h2.below hb, ⟨T, h3.below hb⟩, h4.below hb, ⟨A, c, b1.below hb, b2, b3, b4.below hb⟩, ⟨T', h6.below hb⟩, h7⟩
/-- Better fates are noted. -/
theorem RS.note {w : World} {bl bw br bm bb bt many window : Nat} {st : Ws} (h : RS w bl bw br bm bb bt many window st) {A : Option Addr} {c : Nat} {fs : List Int} {rd : Nat} (hr : Row kInt w (fun k => k ≠ bm ∧ k ≠ bb) A fs) (hc : fs.length ≤ c) (hA : A = none → c = 0) :
    RS ((w.setCell ⟨bb, 0, none⟩ (.slice A fs.length c)).setCell ⟨bm, 0, none⟩ (.int .i64 rd)) bl bw br bm bb bt many window ⟨fs, rd⟩ := by
  obtain ⟨⟨AL, cl, l1, l2, l3, l4⟩, h2, ⟨T, h3⟩, h4, ⟨A', c', b1, b2, b3, b4⟩, ⟨T', h6⟩, hne, ⟨n1, n2⟩, ⟨n3, n4⟩, ⟨n5, n6⟩, n7, n8⟩ := h
  refine ⟨⟨AL, cl, (l1.far (p := ⟨bb, 0, none⟩) n2 _).far (p := ⟨bm, 0, none⟩) n1 _, l2, l3, (l4.far (p := ⟨bb, 0, none⟩) (by simp) _).far (p := ⟨bm, 0, none⟩) (by simp) _⟩, (h2.far (p := ⟨bb, 0, none⟩) n4 _).far (p := ⟨bm, 0, none⟩) n3 _, ⟨T, (h3.far (p := ⟨bb, 0, none⟩) n6 _).far (p := ⟨bm, 0, none⟩) n5 _⟩, (h4.far (p := ⟨bb, 0, none⟩) hne _).set 0 _, ⟨A, c, (b1.set 0 _).far (p := ⟨bm, 0, none⟩) (Ne.symm hne) _, hc, hA, (hr.far (p := ⟨bb, 0, none⟩) (by simp) _).far (p := ⟨bm, 0, none⟩) (by simp) _⟩, ⟨T', (h6.far (p := ⟨bb, 0, none⟩) n8 _).far (p := ⟨bm, 0, none⟩) n7 _⟩, hne, ⟨n1, n2⟩, ⟨n3, n4⟩, ⟨n5, n6⟩, n7, n8⟩
set_option maxRecDepth 100000 in
set_option maxHeartbeats 8000000 in
theorem try2_calls (bl bw br bm bb bt many window : Nat) (hm : many ≤ 100) (hw : window ≤ 20) : ∀ (losses : Nat), losses ≤ 100 → ∀ (A : Option Addr) (c : Nat) (fs : List Int) (st : Ws) (w : World), RS w bl bw br bm bb bt many window st → st.Ok → Row kInt w (fun k => k ≠ bm ∧ k ≠ bb) A fs → fs.length ≤ c → (A = none → c = 0) → fs.length ≤ 110000 →
    Calls Tryd.prog 65 #[.slice A fs.length c, .int .i64 losses, .pointer (some ⟨br, 0, none⟩), .pointer (some ⟨bm, 0, none⟩), .pointer (some ⟨bb, 0, none⟩), .pointer (some ⟨bt, 0, none⟩)] w fun e w' => e = .returned (.tuple #[]) ∧ RS w' bl bw br bm bb bt many window (worst many window losses fs st) ∧ (worst many window losses fs st).Ok ∧ Ch (fun k => k = bm ∨ k = bb) w w' := by
  intro losses
  induction losses using Nat.strongRecOn with | _ losses ih =>
  intro hls A c fs st w hrs hst hr hc hA hfl
  have HR := Lib.hid hr
  have HRS := Lib.hid hrs
  obtain ⟨⟨AL, cl, l1, l2, l3, l4⟩, h2, ⟨T3, h3⟩, h4, ⟨A1, c1, b1, b2, b3, b4⟩, ⟨T6, h6⟩, hne⟩ := hrs
  have hcl := rounds1_calls bl bw many window _ _ AL A cl c fs w hm hw l1 h2 (l4.mono fun _ _ => trivial) l2 l3 (hr.mono fun _ _ => trivial) hc
  have m2 := h3.c0.1
  obtain ⟨rd, s, hs⟩ : ∃ rd s, carryF fs many window 5000 = (rd, s) := ⟨_, _, rfl⟩
  have HS := Lib.hid hs
  rw [hs] at hcl
  have HSee := Lib.hid (see_cases many window st fs rd (by rw [hs]))
  have HM := Lib.hid h4
  have HB := Lib.hid b1
  have HR1 := Lib.hid b4
  have HNE := Lib.hid hne
  have hmb : ¬ bm = bb := hne.1
  have hbm : ¬ bb = bm := fun e => hne.1 e.symm
  have hlb := b1.lt
  have hlm := h4.lt
  clear hr hs l1 l4 h2 h3 h4 b1 b4 h6 hne
  rcases Int.lt_trichotomy st.rounds rd with g | g | g
  · have hu : st.see many window fs = ⟨fs, rd⟩ := HSee.out.1 g
    have g' : ¬ (rd : Int) < st.rounds := by omega
    go_enter Tryd.func65, Tryd.ntmps65
    go_upto_region 3 with (go_at_call 64; go_must (refine hcl.mono ?_; rintro e w1 ⟨rfl, hb1⟩; have k3 := (HM.out.below hb1).c0.1; have kf3 := (HM.out.below hb1).c0.2; have k4 := (HB.out.below hb1).c0.1; have kf4 := (HB.out.below hb1).c0.2))
    have HADV := Lib.hid (show RS ((w1.setCell ⟨bb, 0, none⟩ (.slice A fs.length c)).setCell ⟨bm, 0, none⟩ (.int .i64 rd)) bl bw br bm bb bt many window (st.see many window fs) ∧ Ch (fun k => k = bm ∨ k = bb) w ((w1.setCell ⟨bb, 0, none⟩ (.slice A fs.length c)).setCell ⟨bm, 0, none⟩ (.int .i64 rd)) from by
      rw [hu]
      exact ⟨(HRS.out.below hb1).note (HR.out.below hb1) hc hA, ((Ch.of_below hb1).set (p := ⟨bb, 0, none⟩) (.inl (.inr rfl)) _).set (p := ⟨bm, 0, none⟩) (.inl (.inl rfl)) _⟩)
    generalize World.setCell (w1.setCell ⟨bb, 0, none⟩ (.slice A fs.length c)) ⟨bm, 0, none⟩ (.int .i64 rd) = Wl at HADV ⊢
    try clear ql
    try clear qe
    try clear q
    try clear gl
    try clear ge
    clear HSee hu
    by_cases hz : losses = 0
    · have e0 : ((losses : Int) == 0) = true := by simp [hz]
      have HZ := Lib.hid hz
      clear hz
      go_wp2_with fail
      refine bodyPost_ret (results_none rfl _ _ _) rfl ?_
      obtain rfl := HZ.out
      exact ⟨rfl, HADV.out.1, Ws.see_ok hst (by omega), HADV.out.2⟩
    · obtain ⟨losses, rfl⟩ : ∃ l, losses = l + 1 := ⟨losses - 1, by omega⟩
      go_wp2_with fail
      go_loopg [10, 11] (s.used - fs.length) (fun kq v10 v11 W => ∃ (k : Nat) (st' : Ws), v10 = .int .i64 k ∧ Hid (kq = s.used - k ∧ fs.length ≤ k ∧ worstLoop (worst many window losses) fs (s.used - k) k st' = worst many window (losses + 1) fs st ∧ st'.Ok ∧ RS W bl bw br bm bb bt many window st' ∧ Ch (fun k => k = bm ∨ k = bb) w W))
      case atStart => exact ⟨fs.length, _, rfl, Lib.hid ⟨rfl, Nat.le_refl _, by rw [worst, HS.out], Ws.see_ok hst (by omega), HADV.out.1, HADV.out.2⟩⟩
      case round =>
        obtain ⟨k, st', rfl, R⟩ := hrel
        have hku : s.used ≤ 105000 := by have := used_le fs many window hw; rw [HS.out] at this; exact this
        by_cases hk : k < s.used
        · have hfk := R.out.2.1
          have hsub : ((k : Int) - (fs.length : Int)) = ((k - fs.length : Nat) : Int) := by omega
          have hRk := HR.out.ch R.out.2.2.2.2.2 (fun j hj => by rintro (e | e); exact hj.1 e; exact hj.2 e)
          have hclone := cloneInts_calls A c fs wr (hRk.mono fun _ _ => trivial) (by omega)
          obtain ⟨T6, h6⟩ := R.out.2.2.2.2.1.t
          have h6c := h6.c0.1
          have H6 := Lib.hid h6
          have hsz := R.out.2.2.2.2.2.size
          clear hRk h6
          go_upto_region 8 with (first
            | (go_at_call 67; go_must (refine hclone.mono ?_; rintro e w2 ⟨v2, rfl, hown2, hb2⟩))
            | (at_builtin; go_must (obtain ⟨v3, w3, hrun, hown3, hg3⟩ := run_append_zeros w2 wr.heap.size (k - fs.length) 22 v2 fs.length _ hown2 (by omega) hb2.size; refine Lib.wpList_append_run _ rfl _ _ _ _ rfl _ _ rfl rfl _ _ hrun ?_; have hb3 := hb2.grown hg3 hb2.size (fun j hj => own_base hown2 j hj))))
          have hown3' : w3.ownsRow wr.heap.size 3 1 v3 k ((fs ++ List.replicate (k - fs.length) 0).map (Value.int .i64)) := by
            have h := hown3
            rw [show fs.length + (k - fs.length) = k by omega] at h
            rw [List.map_append, List.map_replicate]
            exact h
          have HO3 := Lib.hid hown3'
          have hb3s : wr.heap.size ≤ w3.heap.size := hb3.size
          have t6 := (H6.out.below hb3).c0.1
          have t6d : w3.drew.cell? ⟨bt, 0, none⟩ = some (.func (.func 65) #[] #[.pointer (some ⟨br, 0, none⟩), .pointer (some ⟨bm, 0, none⟩), .pointer (some ⟨bb, 0, none⟩), .pointer (some ⟨bt, 0, none⟩)]) := t6
          have t6a : (w3.alloc (.cells #[.int .i64 1] 3)).cell? ⟨bt, 0, none⟩ = some (.func (.func 65) #[] #[.pointer (some ⟨br, 0, none⟩), .pointer (some ⟨bm, 0, none⟩), .pointer (some ⟨bb, 0, none⟩), .pointer (some ⟨bt, 0, none⟩)]) := ((H6.out.below hb3).alloc _).c0.1
          have t6ad : (w3.alloc (.cells #[.int .i64 1] 3)).drew.cell? ⟨bt, 0, none⟩ = some (.func (.func 65) #[] #[.pointer (some ⟨br, 0, none⟩), .pointer (some ⟨bm, 0, none⟩), .pointer (some ⟨bb, 0, none⟩), .pointer (some ⟨bt, 0, none⟩)]) := t6a
          have hO4 : (w3.alloc (.cells #[.int .i64 1] 3)).ownsRow wr.heap.size 3 1 v3 k ((fs ++ List.replicate (k - fs.length) 0).map (Value.int .i64)) := own_move hown3' (fun j hj => Below.heap_alloc w3 _ j (own_lt hown3' j hj))
          have HO4 : Hid ((w3.alloc (.cells #[.int .i64 1] 3)).drew.ownsRow wr.heap.size 3 1 v3 k ((fs ++ List.replicate (k - fs.length) 0).map (Value.int .i64))) := Lib.hid hO4
          have hc4 : (w3.alloc (.cells #[.int .i64 1] 3)).drew.cell? ⟨w3.heap.size, 0, none⟩ = some (.int .i64 1) := (Blk.new w3 #[.int .i64 1] 3).c0.1
          have hz4 : wr.heap.size ≤ (w3.alloc (.cells #[.int .i64 1] 3)).drew.heap.size := by simp; omega
          have HC4 := Lib.hid hc4
          have hwl : IntKind.i64.wrap (losses : Int) = losses := by rw [IntKind.wrap_i64]; omega
          have hb4' : Below wr.heap.size wr (w3.alloc (.cells #[.int .i64 1] 3)).drew := Below.drew (hb3.alloc hb3s _)
          clear hown2 hown3 hown3' hrun hg3 hO4 hc4
          go_region_held3 (fun w' => w'.cell? ⟨bt, 0, none⟩ = some (.func (.func 65) #[] #[.pointer (some ⟨br, 0, none⟩), .pointer (some ⟨bm, 0, none⟩), .pointer (some ⟨bb, 0, none⟩), .pointer (some ⟨bt, 0, none⟩)])) (first | with_reducible exact t6 | with_reducible exact t6d | with_reducible exact t6a | with_reducible exact t6ad | with_reducible exact t6b | with_reducible exact t6c) ((first
            | (go_at_call 65; have hcall := ih losses (Nat.lt_succ_self _) (by omega) A4 c4 (nextF fs k) st' w4 (R.out.2.2.2.2.1.below hb5) R.out.2.2.2.1 (HR4.out.mono fun j hj => (⟨by show j ≠ bm; omega, by show j ≠ bb; omega⟩ : j ≠ bm ∧ j ≠ bb)) (by rw [nextF_len fs k hfk]; exact hc4) hA4 (by rw [nextF_len fs k hfk]; omega); rw [nextF_len fs k hfk] at hcall; refine hcall.mono ?_; rintro e w6 ⟨rfl, hrs6, hok6, hch6⟩; obtain ⟨T7, h7⟩ := hrs6.t; have t6c := h7.c0.1; clear h7)
            | ((with_reducible show (if Region.wanted { dst := some 67, op := _, type := _, pos := _, after := _, guard := _ } _ = true then _ else _)); go_loud (refine step_append_one (base := wr.heap.size) (xs := fs ++ List.replicate (k - fs.length) 0) HO4.out HC4.out hz4 Tryd.underlying22 infoInt (by omega) rfl rfl rfl rfl ?_); intro v4 w4 hown4 hb4; have hb5 := hb4'.trans hb4; obtain ⟨A4, c4, rfl, hc4, hA4, hr4⟩ := own_ints hown4 (nextF_len fs k hfk).symm (by have := nextF_len fs k hfk; unfold nextF at this; omega); have t6b := (H6.out.below hb5).c0.1; have HR4 := Lib.hid hr4; clear hr4 hown4)))
          all_goals
            go_wp2_with fail
            go_roundg (s.used - (k + 1))
            case measure => have := R.out.1; omega
            case rel =>
              have hR := R.out.2.2.1
              rw [show s.used - k = (s.used - (k + 1)) + 1 by omega] at hR
              exact ⟨k + 1, _, by go_num, Lib.hid ⟨rfl, by omega, hR, hok6, hrs6, (R.out.2.2.2.2.2.trans (Ch.of_below hb5)).trans hch6⟩⟩
        · go_wp2_with fail
          go_end0
          have hR := R.out.2.2.1
          rw [show s.used - k = 0 by omega] at hR
          have hR' : st' = worst many window (losses + 1) fs st := hR
          exact ⟨rfl, by rw [← hR']; exact R.out.2.2.2.2.1, by rw [← hR']; exact R.out.2.2.2.1, R.out.2.2.2.2.2⟩
  · have gl : ¬ st.rounds < (rd : Int) := by omega
    have ge : ((rd : Int) == st.rounds) = true := by simp [g]
    have G := Lib.hid g.symm
    clear g
    rcases Nat.lt_trichotomy fs.length st.best.length with q | q | q
    · have hu : st.see many window fs = ⟨fs, rd⟩ := HSee.out.2.1 G.out (by unfold lessL; rw [if_neg (by omega)]; exact decide_eq_true q)
      go_enter Tryd.func65, Tryd.ntmps65
      go_upto_region 3 with (go_at_call 64; go_must (refine hcl.mono ?_; rintro e w1 ⟨rfl, hb1⟩; have k3 := (HM.out.below hb1).c0.1; have kf3 := (HM.out.below hb1).c0.2; have k4 := (HB.out.below hb1).c0.1; have kf4 := (HB.out.below hb1).c0.2))
      have HADV := Lib.hid (show RS ((w1.setCell ⟨bb, 0, none⟩ (.slice A fs.length c)).setCell ⟨bm, 0, none⟩ (.int .i64 rd)) bl bw br bm bb bt many window (st.see many window fs) ∧ Ch (fun k => k = bm ∨ k = bb) w ((w1.setCell ⟨bb, 0, none⟩ (.slice A fs.length c)).setCell ⟨bm, 0, none⟩ (.int .i64 rd)) from by
        rw [hu]
        exact ⟨(HRS.out.below hb1).note (HR.out.below hb1) hc hA, ((Ch.of_below hb1).set (p := ⟨bb, 0, none⟩) (.inl (.inr rfl)) _).set (p := ⟨bm, 0, none⟩) (.inl (.inl rfl)) _⟩)
      generalize World.setCell (w1.setCell ⟨bb, 0, none⟩ (.slice A fs.length c)) ⟨bm, 0, none⟩ (.int .i64 rd) = Wl at HADV ⊢
      try clear ql
      try clear qe
      try clear q
      try clear gl
      try clear ge
      clear HSee hu
      by_cases hz : losses = 0
      · have e0 : ((losses : Int) == 0) = true := by simp [hz]
        have HZ := Lib.hid hz
        clear hz
        go_wp2_with fail
        refine bodyPost_ret (results_none rfl _ _ _) rfl ?_
        obtain rfl := HZ.out
        exact ⟨rfl, HADV.out.1, Ws.see_ok hst (by omega), HADV.out.2⟩
      · obtain ⟨losses, rfl⟩ : ∃ l, losses = l + 1 := ⟨losses - 1, by omega⟩
        go_wp2_with fail
        go_loopg [10, 11] (s.used - fs.length) (fun kq v10 v11 W => ∃ (k : Nat) (st' : Ws), v10 = .int .i64 k ∧ Hid (kq = s.used - k ∧ fs.length ≤ k ∧ worstLoop (worst many window losses) fs (s.used - k) k st' = worst many window (losses + 1) fs st ∧ st'.Ok ∧ RS W bl bw br bm bb bt many window st' ∧ Ch (fun k => k = bm ∨ k = bb) w W))
        case atStart => exact ⟨fs.length, _, rfl, Lib.hid ⟨rfl, Nat.le_refl _, by rw [worst, HS.out], Ws.see_ok hst (by omega), HADV.out.1, HADV.out.2⟩⟩
        case round =>
          obtain ⟨k, st', rfl, R⟩ := hrel
          have hku : s.used ≤ 105000 := by have := used_le fs many window hw; rw [HS.out] at this; exact this
          by_cases hk : k < s.used
          · have hfk := R.out.2.1
            have hsub : ((k : Int) - (fs.length : Int)) = ((k - fs.length : Nat) : Int) := by omega
            have hRk := HR.out.ch R.out.2.2.2.2.2 (fun j hj => by rintro (e | e); exact hj.1 e; exact hj.2 e)
            have hclone := cloneInts_calls A c fs wr (hRk.mono fun _ _ => trivial) (by omega)
            obtain ⟨T6, h6⟩ := R.out.2.2.2.2.1.t
            have h6c := h6.c0.1
            have H6 := Lib.hid h6
            have hsz := R.out.2.2.2.2.2.size
            clear hRk h6
            go_upto_region 8 with (first
              | (go_at_call 67; go_must (refine hclone.mono ?_; rintro e w2 ⟨v2, rfl, hown2, hb2⟩))
              | (at_builtin; go_must (obtain ⟨v3, w3, hrun, hown3, hg3⟩ := run_append_zeros w2 wr.heap.size (k - fs.length) 22 v2 fs.length _ hown2 (by omega) hb2.size; refine Lib.wpList_append_run _ rfl _ _ _ _ rfl _ _ rfl rfl _ _ hrun ?_; have hb3 := hb2.grown hg3 hb2.size (fun j hj => own_base hown2 j hj))))
            have hown3' : w3.ownsRow wr.heap.size 3 1 v3 k ((fs ++ List.replicate (k - fs.length) 0).map (Value.int .i64)) := by
              have h := hown3
              rw [show fs.length + (k - fs.length) = k by omega] at h
              rw [List.map_append, List.map_replicate]
              exact h
            have HO3 := Lib.hid hown3'
            have hb3s : wr.heap.size ≤ w3.heap.size := hb3.size
            have t6 := (H6.out.below hb3).c0.1
            have t6d : w3.drew.cell? ⟨bt, 0, none⟩ = some (.func (.func 65) #[] #[.pointer (some ⟨br, 0, none⟩), .pointer (some ⟨bm, 0, none⟩), .pointer (some ⟨bb, 0, none⟩), .pointer (some ⟨bt, 0, none⟩)]) := t6
            have t6a : (w3.alloc (.cells #[.int .i64 1] 3)).cell? ⟨bt, 0, none⟩ = some (.func (.func 65) #[] #[.pointer (some ⟨br, 0, none⟩), .pointer (some ⟨bm, 0, none⟩), .pointer (some ⟨bb, 0, none⟩), .pointer (some ⟨bt, 0, none⟩)]) := ((H6.out.below hb3).alloc _).c0.1
            have t6ad : (w3.alloc (.cells #[.int .i64 1] 3)).drew.cell? ⟨bt, 0, none⟩ = some (.func (.func 65) #[] #[.pointer (some ⟨br, 0, none⟩), .pointer (some ⟨bm, 0, none⟩), .pointer (some ⟨bb, 0, none⟩), .pointer (some ⟨bt, 0, none⟩)]) := t6a
            have hO4 : (w3.alloc (.cells #[.int .i64 1] 3)).ownsRow wr.heap.size 3 1 v3 k ((fs ++ List.replicate (k - fs.length) 0).map (Value.int .i64)) := own_move hown3' (fun j hj => Below.heap_alloc w3 _ j (own_lt hown3' j hj))
            have HO4 : Hid ((w3.alloc (.cells #[.int .i64 1] 3)).drew.ownsRow wr.heap.size 3 1 v3 k ((fs ++ List.replicate (k - fs.length) 0).map (Value.int .i64))) := Lib.hid hO4
            have hc4 : (w3.alloc (.cells #[.int .i64 1] 3)).drew.cell? ⟨w3.heap.size, 0, none⟩ = some (.int .i64 1) := (Blk.new w3 #[.int .i64 1] 3).c0.1
            have hz4 : wr.heap.size ≤ (w3.alloc (.cells #[.int .i64 1] 3)).drew.heap.size := by simp; omega
            have HC4 := Lib.hid hc4
            have hwl : IntKind.i64.wrap (losses : Int) = losses := by rw [IntKind.wrap_i64]; omega
            have hb4' : Below wr.heap.size wr (w3.alloc (.cells #[.int .i64 1] 3)).drew := Below.drew (hb3.alloc hb3s _)
            clear hown2 hown3 hown3' hrun hg3 hO4 hc4
            go_region_held3 (fun w' => w'.cell? ⟨bt, 0, none⟩ = some (.func (.func 65) #[] #[.pointer (some ⟨br, 0, none⟩), .pointer (some ⟨bm, 0, none⟩), .pointer (some ⟨bb, 0, none⟩), .pointer (some ⟨bt, 0, none⟩)])) (first | with_reducible exact t6 | with_reducible exact t6d | with_reducible exact t6a | with_reducible exact t6ad | with_reducible exact t6b | with_reducible exact t6c) ((first
              | (go_at_call 65; have hcall := ih losses (Nat.lt_succ_self _) (by omega) A4 c4 (nextF fs k) st' w4 (R.out.2.2.2.2.1.below hb5) R.out.2.2.2.1 (HR4.out.mono fun j hj => (⟨by show j ≠ bm; omega, by show j ≠ bb; omega⟩ : j ≠ bm ∧ j ≠ bb)) (by rw [nextF_len fs k hfk]; exact hc4) hA4 (by rw [nextF_len fs k hfk]; omega); rw [nextF_len fs k hfk] at hcall; refine hcall.mono ?_; rintro e w6 ⟨rfl, hrs6, hok6, hch6⟩; obtain ⟨T7, h7⟩ := hrs6.t; have t6c := h7.c0.1; clear h7)
              | ((with_reducible show (if Region.wanted { dst := some 67, op := _, type := _, pos := _, after := _, guard := _ } _ = true then _ else _)); go_loud (refine step_append_one (base := wr.heap.size) (xs := fs ++ List.replicate (k - fs.length) 0) HO4.out HC4.out hz4 Tryd.underlying22 infoInt (by omega) rfl rfl rfl rfl ?_); intro v4 w4 hown4 hb4; have hb5 := hb4'.trans hb4; obtain ⟨A4, c4, rfl, hc4, hA4, hr4⟩ := own_ints hown4 (nextF_len fs k hfk).symm (by have := nextF_len fs k hfk; unfold nextF at this; omega); have t6b := (H6.out.below hb5).c0.1; have HR4 := Lib.hid hr4; clear hr4 hown4)))
            all_goals
              go_wp2_with fail
              go_roundg (s.used - (k + 1))
              case measure => have := R.out.1; omega
              case rel =>
                have hR := R.out.2.2.1
                rw [show s.used - k = (s.used - (k + 1)) + 1 by omega] at hR
                exact ⟨k + 1, _, by go_num, Lib.hid ⟨rfl, by omega, hR, hok6, hrs6, (R.out.2.2.2.2.2.trans (Ch.of_below hb5)).trans hch6⟩⟩
          · go_wp2_with fail
            go_end0
            have hR := R.out.2.2.1
            rw [show s.used - k = 0 by omega] at hR
            have hR' : st' = worst many window (losses + 1) fs st := hR
            exact ⟨rfl, by rw [← hR']; exact R.out.2.2.2.2.1, by rw [← hR']; exact R.out.2.2.2.1, R.out.2.2.2.2.2⟩
    · have HL := Lib.hid q
      have ql : ¬ fs.length < st.best.length := by omega
      have qe : ((fs.length : Int) == st.best.length) = true := by simp [q]
      have hlex := cmpL_lex fs st.best q
      have hle : lessL fs st.best = lexL fs st.best := if_pos q
      clear q
      by_cases hx : cmpL fs st.best < 0
      · have hu : st.see many window fs = ⟨fs, rd⟩ := HSee.out.2.1 G.out (by rw [hle, ← hlex]; exact decide_eq_true hx)
        clear hlex hle
        go_enter Tryd.func65, Tryd.ntmps65
        go_upto_region 3 with (first | (go_at_call 64; go_must (refine hcl.mono ?_; rintro e w1 ⟨rfl, hb1⟩; have k3 := (HM.out.below hb1).c0.1; have kf3 := (HM.out.below hb1).c0.2; have k4 := (HB.out.below hb1).c0.1; have kf4 := (HB.out.below hb1).c0.2)) | (go_at_call 66; go_must (refine (compare_calls A A1 fs st.best c c1 _ HL.out (HR.out.below hb1 |>.mono fun _ _ => trivial) (HR1.out.below hb1 |>.mono fun _ _ => trivial)).mono ?_; rintro e w' ⟨rfl, hw'⟩; obtain rfl : w1 = w' := hw'.symm)))
        have HADV := Lib.hid (show RS ((w1.setCell ⟨bb, 0, none⟩ (.slice A fs.length c)).setCell ⟨bm, 0, none⟩ (.int .i64 rd)) bl bw br bm bb bt many window (st.see many window fs) ∧ Ch (fun k => k = bm ∨ k = bb) w ((w1.setCell ⟨bb, 0, none⟩ (.slice A fs.length c)).setCell ⟨bm, 0, none⟩ (.int .i64 rd)) from by
          rw [hu]
          exact ⟨(HRS.out.below hb1).note (HR.out.below hb1) hc hA, ((Ch.of_below hb1).set (p := ⟨bb, 0, none⟩) (.inl (.inr rfl)) _).set (p := ⟨bm, 0, none⟩) (.inl (.inl rfl)) _⟩)
        generalize World.setCell (w1.setCell ⟨bb, 0, none⟩ (.slice A fs.length c)) ⟨bm, 0, none⟩ (.int .i64 rd) = Wl at HADV ⊢
        try clear ql
        try clear qe
        try clear q
        try clear gl
        try clear ge
        clear HSee hu
        by_cases hz : losses = 0
        · have e0 : ((losses : Int) == 0) = true := by simp [hz]
          have HZ := Lib.hid hz
          clear hz
          go_wp2_with fail
          refine bodyPost_ret (results_none rfl _ _ _) rfl ?_
          obtain rfl := HZ.out
          exact ⟨rfl, HADV.out.1, Ws.see_ok hst (by omega), HADV.out.2⟩
        · obtain ⟨losses, rfl⟩ : ∃ l, losses = l + 1 := ⟨losses - 1, by omega⟩
          go_wp2_with fail
          go_loopg [10, 11] (s.used - fs.length) (fun kq v10 v11 W => ∃ (k : Nat) (st' : Ws), v10 = .int .i64 k ∧ Hid (kq = s.used - k ∧ fs.length ≤ k ∧ worstLoop (worst many window losses) fs (s.used - k) k st' = worst many window (losses + 1) fs st ∧ st'.Ok ∧ RS W bl bw br bm bb bt many window st' ∧ Ch (fun k => k = bm ∨ k = bb) w W))
          case atStart => exact ⟨fs.length, _, rfl, Lib.hid ⟨rfl, Nat.le_refl _, by rw [worst, HS.out], Ws.see_ok hst (by omega), HADV.out.1, HADV.out.2⟩⟩
          case round =>
            obtain ⟨k, st', rfl, R⟩ := hrel
            have hku : s.used ≤ 105000 := by have := used_le fs many window hw; rw [HS.out] at this; exact this
            by_cases hk : k < s.used
            · have hfk := R.out.2.1
              have hsub : ((k : Int) - (fs.length : Int)) = ((k - fs.length : Nat) : Int) := by omega
              have hRk := HR.out.ch R.out.2.2.2.2.2 (fun j hj => by rintro (e | e); exact hj.1 e; exact hj.2 e)
              have hclone := cloneInts_calls A c fs wr (hRk.mono fun _ _ => trivial) (by omega)
              obtain ⟨T6, h6⟩ := R.out.2.2.2.2.1.t
              have h6c := h6.c0.1
              have H6 := Lib.hid h6
              have hsz := R.out.2.2.2.2.2.size
              clear hRk h6
              go_upto_region 8 with (first
                | (go_at_call 67; go_must (refine hclone.mono ?_; rintro e w2 ⟨v2, rfl, hown2, hb2⟩))
                | (at_builtin; go_must (obtain ⟨v3, w3, hrun, hown3, hg3⟩ := run_append_zeros w2 wr.heap.size (k - fs.length) 22 v2 fs.length _ hown2 (by omega) hb2.size; refine Lib.wpList_append_run _ rfl _ _ _ _ rfl _ _ rfl rfl _ _ hrun ?_; have hb3 := hb2.grown hg3 hb2.size (fun j hj => own_base hown2 j hj))))
              have hown3' : w3.ownsRow wr.heap.size 3 1 v3 k ((fs ++ List.replicate (k - fs.length) 0).map (Value.int .i64)) := by
                have h := hown3
                rw [show fs.length + (k - fs.length) = k by omega] at h
                rw [List.map_append, List.map_replicate]
                exact h
              have HO3 := Lib.hid hown3'
              have hb3s : wr.heap.size ≤ w3.heap.size := hb3.size
              have t6 := (H6.out.below hb3).c0.1
              have t6d : w3.drew.cell? ⟨bt, 0, none⟩ = some (.func (.func 65) #[] #[.pointer (some ⟨br, 0, none⟩), .pointer (some ⟨bm, 0, none⟩), .pointer (some ⟨bb, 0, none⟩), .pointer (some ⟨bt, 0, none⟩)]) := t6
              have t6a : (w3.alloc (.cells #[.int .i64 1] 3)).cell? ⟨bt, 0, none⟩ = some (.func (.func 65) #[] #[.pointer (some ⟨br, 0, none⟩), .pointer (some ⟨bm, 0, none⟩), .pointer (some ⟨bb, 0, none⟩), .pointer (some ⟨bt, 0, none⟩)]) := ((H6.out.below hb3).alloc _).c0.1
              have t6ad : (w3.alloc (.cells #[.int .i64 1] 3)).drew.cell? ⟨bt, 0, none⟩ = some (.func (.func 65) #[] #[.pointer (some ⟨br, 0, none⟩), .pointer (some ⟨bm, 0, none⟩), .pointer (some ⟨bb, 0, none⟩), .pointer (some ⟨bt, 0, none⟩)]) := t6a
              have hO4 : (w3.alloc (.cells #[.int .i64 1] 3)).ownsRow wr.heap.size 3 1 v3 k ((fs ++ List.replicate (k - fs.length) 0).map (Value.int .i64)) := own_move hown3' (fun j hj => Below.heap_alloc w3 _ j (own_lt hown3' j hj))
              have HO4 : Hid ((w3.alloc (.cells #[.int .i64 1] 3)).drew.ownsRow wr.heap.size 3 1 v3 k ((fs ++ List.replicate (k - fs.length) 0).map (Value.int .i64))) := Lib.hid hO4
              have hc4 : (w3.alloc (.cells #[.int .i64 1] 3)).drew.cell? ⟨w3.heap.size, 0, none⟩ = some (.int .i64 1) := (Blk.new w3 #[.int .i64 1] 3).c0.1
              have hz4 : wr.heap.size ≤ (w3.alloc (.cells #[.int .i64 1] 3)).drew.heap.size := by simp; omega
              have HC4 := Lib.hid hc4
              have hwl : IntKind.i64.wrap (losses : Int) = losses := by rw [IntKind.wrap_i64]; omega
              have hb4' : Below wr.heap.size wr (w3.alloc (.cells #[.int .i64 1] 3)).drew := Below.drew (hb3.alloc hb3s _)
              clear hown2 hown3 hown3' hrun hg3 hO4 hc4
              go_region_held3 (fun w' => w'.cell? ⟨bt, 0, none⟩ = some (.func (.func 65) #[] #[.pointer (some ⟨br, 0, none⟩), .pointer (some ⟨bm, 0, none⟩), .pointer (some ⟨bb, 0, none⟩), .pointer (some ⟨bt, 0, none⟩)])) (first | with_reducible exact t6 | with_reducible exact t6d | with_reducible exact t6a | with_reducible exact t6ad | with_reducible exact t6b | with_reducible exact t6c) ((first
                | (go_at_call 65; have hcall := ih losses (Nat.lt_succ_self _) (by omega) A4 c4 (nextF fs k) st' w4 (R.out.2.2.2.2.1.below hb5) R.out.2.2.2.1 (HR4.out.mono fun j hj => (⟨by show j ≠ bm; omega, by show j ≠ bb; omega⟩ : j ≠ bm ∧ j ≠ bb)) (by rw [nextF_len fs k hfk]; exact hc4) hA4 (by rw [nextF_len fs k hfk]; omega); rw [nextF_len fs k hfk] at hcall; refine hcall.mono ?_; rintro e w6 ⟨rfl, hrs6, hok6, hch6⟩; obtain ⟨T7, h7⟩ := hrs6.t; have t6c := h7.c0.1; clear h7)
                | ((with_reducible show (if Region.wanted { dst := some 67, op := _, type := _, pos := _, after := _, guard := _ } _ = true then _ else _)); go_loud (refine step_append_one (base := wr.heap.size) (xs := fs ++ List.replicate (k - fs.length) 0) HO4.out HC4.out hz4 Tryd.underlying22 infoInt (by omega) rfl rfl rfl rfl ?_); intro v4 w4 hown4 hb4; have hb5 := hb4'.trans hb4; obtain ⟨A4, c4, rfl, hc4, hA4, hr4⟩ := own_ints hown4 (nextF_len fs k hfk).symm (by have := nextF_len fs k hfk; unfold nextF at this; omega); have t6b := (H6.out.below hb5).c0.1; have HR4 := Lib.hid hr4; clear hr4 hown4)))
              all_goals
                go_wp2_with fail
                go_roundg (s.used - (k + 1))
                case measure => have := R.out.1; omega
                case rel =>
                  have hR := R.out.2.2.1
                  rw [show s.used - k = (s.used - (k + 1)) + 1 by omega] at hR
                  exact ⟨k + 1, _, by go_num, Lib.hid ⟨rfl, by omega, hR, hok6, hrs6, (R.out.2.2.2.2.2.trans (Ch.of_below hb5)).trans hch6⟩⟩
            · go_wp2_with fail
              go_end0
              have hR := R.out.2.2.1
              rw [show s.used - k = 0 by omega] at hR
              have hR' : st' = worst many window (losses + 1) fs st := hR
              exact ⟨rfl, by rw [← hR']; exact R.out.2.2.2.2.1, by rw [← hR']; exact R.out.2.2.2.1, R.out.2.2.2.2.2⟩
      · have hu : st.see many window fs = st := HSee.out.2.2.1 G.out (by rw [hle, ← hlex]; exact decide_eq_false hx)
        clear hlex hle
        go_enter Tryd.func65, Tryd.ntmps65
        go_upto_region 3 with (first | (go_at_call 64; go_must (refine hcl.mono ?_; rintro e w1 ⟨rfl, hb1⟩; have k3 := (HM.out.below hb1).c0.1; have kf3 := (HM.out.below hb1).c0.2; have k4 := (HB.out.below hb1).c0.1; have kf4 := (HB.out.below hb1).c0.2)) | (go_at_call 66; go_must (refine (compare_calls A A1 fs st.best c c1 _ HL.out (HR.out.below hb1 |>.mono fun _ _ => trivial) (HR1.out.below hb1 |>.mono fun _ _ => trivial)).mono ?_; rintro e w' ⟨rfl, hw'⟩; obtain rfl : w1 = w' := hw'.symm)))
        have HADV := Lib.hid (show RS w1 bl bw br bm bb bt many window (st.see many window fs) ∧ Ch (fun k => k = bm ∨ k = bb) w w1 from by
          rw [hu]
          exact ⟨HRS.out.below hb1, Ch.of_below hb1⟩)
        generalize w1 = Wl at HADV ⊢
        try clear ql
        try clear qe
        try clear q
        try clear gl
        try clear ge
        clear HSee hu
        by_cases hz : losses = 0
        · have e0 : ((losses : Int) == 0) = true := by simp [hz]
          have HZ := Lib.hid hz
          clear hz
          go_wp2_with fail
          refine bodyPost_ret (results_none rfl _ _ _) rfl ?_
          obtain rfl := HZ.out
          exact ⟨rfl, HADV.out.1, Ws.see_ok hst (by omega), HADV.out.2⟩
        · obtain ⟨losses, rfl⟩ : ∃ l, losses = l + 1 := ⟨losses - 1, by omega⟩
          go_wp2_with fail
          go_loopg [10, 11] (s.used - fs.length) (fun kq v10 v11 W => ∃ (k : Nat) (st' : Ws), v10 = .int .i64 k ∧ Hid (kq = s.used - k ∧ fs.length ≤ k ∧ worstLoop (worst many window losses) fs (s.used - k) k st' = worst many window (losses + 1) fs st ∧ st'.Ok ∧ RS W bl bw br bm bb bt many window st' ∧ Ch (fun k => k = bm ∨ k = bb) w W))
          case atStart => exact ⟨fs.length, _, rfl, Lib.hid ⟨rfl, Nat.le_refl _, by rw [worst, HS.out], Ws.see_ok hst (by omega), HADV.out.1, HADV.out.2⟩⟩
          case round =>
            obtain ⟨k, st', rfl, R⟩ := hrel
            have hku : s.used ≤ 105000 := by have := used_le fs many window hw; rw [HS.out] at this; exact this
            by_cases hk : k < s.used
            · have hfk := R.out.2.1
              have hsub : ((k : Int) - (fs.length : Int)) = ((k - fs.length : Nat) : Int) := by omega
              have hRk := HR.out.ch R.out.2.2.2.2.2 (fun j hj => by rintro (e | e); exact hj.1 e; exact hj.2 e)
              have hclone := cloneInts_calls A c fs wr (hRk.mono fun _ _ => trivial) (by omega)
              obtain ⟨T6, h6⟩ := R.out.2.2.2.2.1.t
              have h6c := h6.c0.1
              have H6 := Lib.hid h6
              have hsz := R.out.2.2.2.2.2.size
              clear hRk h6
              go_upto_region 8 with (first
                | (go_at_call 67; go_must (refine hclone.mono ?_; rintro e w2 ⟨v2, rfl, hown2, hb2⟩))
                | (at_builtin; go_must (obtain ⟨v3, w3, hrun, hown3, hg3⟩ := run_append_zeros w2 wr.heap.size (k - fs.length) 22 v2 fs.length _ hown2 (by omega) hb2.size; refine Lib.wpList_append_run _ rfl _ _ _ _ rfl _ _ rfl rfl _ _ hrun ?_; have hb3 := hb2.grown hg3 hb2.size (fun j hj => own_base hown2 j hj))))
              have hown3' : w3.ownsRow wr.heap.size 3 1 v3 k ((fs ++ List.replicate (k - fs.length) 0).map (Value.int .i64)) := by
                have h := hown3
                rw [show fs.length + (k - fs.length) = k by omega] at h
                rw [List.map_append, List.map_replicate]
                exact h
              have HO3 := Lib.hid hown3'
              have hb3s : wr.heap.size ≤ w3.heap.size := hb3.size
              have t6 := (H6.out.below hb3).c0.1
              have t6d : w3.drew.cell? ⟨bt, 0, none⟩ = some (.func (.func 65) #[] #[.pointer (some ⟨br, 0, none⟩), .pointer (some ⟨bm, 0, none⟩), .pointer (some ⟨bb, 0, none⟩), .pointer (some ⟨bt, 0, none⟩)]) := t6
              have t6a : (w3.alloc (.cells #[.int .i64 1] 3)).cell? ⟨bt, 0, none⟩ = some (.func (.func 65) #[] #[.pointer (some ⟨br, 0, none⟩), .pointer (some ⟨bm, 0, none⟩), .pointer (some ⟨bb, 0, none⟩), .pointer (some ⟨bt, 0, none⟩)]) := ((H6.out.below hb3).alloc _).c0.1
              have t6ad : (w3.alloc (.cells #[.int .i64 1] 3)).drew.cell? ⟨bt, 0, none⟩ = some (.func (.func 65) #[] #[.pointer (some ⟨br, 0, none⟩), .pointer (some ⟨bm, 0, none⟩), .pointer (some ⟨bb, 0, none⟩), .pointer (some ⟨bt, 0, none⟩)]) := t6a
              have hO4 : (w3.alloc (.cells #[.int .i64 1] 3)).ownsRow wr.heap.size 3 1 v3 k ((fs ++ List.replicate (k - fs.length) 0).map (Value.int .i64)) := own_move hown3' (fun j hj => Below.heap_alloc w3 _ j (own_lt hown3' j hj))
              have HO4 : Hid ((w3.alloc (.cells #[.int .i64 1] 3)).drew.ownsRow wr.heap.size 3 1 v3 k ((fs ++ List.replicate (k - fs.length) 0).map (Value.int .i64))) := Lib.hid hO4
              have hc4 : (w3.alloc (.cells #[.int .i64 1] 3)).drew.cell? ⟨w3.heap.size, 0, none⟩ = some (.int .i64 1) := (Blk.new w3 #[.int .i64 1] 3).c0.1
              have hz4 : wr.heap.size ≤ (w3.alloc (.cells #[.int .i64 1] 3)).drew.heap.size := by simp; omega
              have HC4 := Lib.hid hc4
              have hwl : IntKind.i64.wrap (losses : Int) = losses := by rw [IntKind.wrap_i64]; omega
              have hb4' : Below wr.heap.size wr (w3.alloc (.cells #[.int .i64 1] 3)).drew := Below.drew (hb3.alloc hb3s _)
              clear hown2 hown3 hown3' hrun hg3 hO4 hc4
              go_region_held3 (fun w' => w'.cell? ⟨bt, 0, none⟩ = some (.func (.func 65) #[] #[.pointer (some ⟨br, 0, none⟩), .pointer (some ⟨bm, 0, none⟩), .pointer (some ⟨bb, 0, none⟩), .pointer (some ⟨bt, 0, none⟩)])) (first | with_reducible exact t6 | with_reducible exact t6d | with_reducible exact t6a | with_reducible exact t6ad | with_reducible exact t6b | with_reducible exact t6c) ((first
                | (go_at_call 65; have hcall := ih losses (Nat.lt_succ_self _) (by omega) A4 c4 (nextF fs k) st' w4 (R.out.2.2.2.2.1.below hb5) R.out.2.2.2.1 (HR4.out.mono fun j hj => (⟨by show j ≠ bm; omega, by show j ≠ bb; omega⟩ : j ≠ bm ∧ j ≠ bb)) (by rw [nextF_len fs k hfk]; exact hc4) hA4 (by rw [nextF_len fs k hfk]; omega); rw [nextF_len fs k hfk] at hcall; refine hcall.mono ?_; rintro e w6 ⟨rfl, hrs6, hok6, hch6⟩; obtain ⟨T7, h7⟩ := hrs6.t; have t6c := h7.c0.1; clear h7)
                | ((with_reducible show (if Region.wanted { dst := some 67, op := _, type := _, pos := _, after := _, guard := _ } _ = true then _ else _)); go_loud (refine step_append_one (base := wr.heap.size) (xs := fs ++ List.replicate (k - fs.length) 0) HO4.out HC4.out hz4 Tryd.underlying22 infoInt (by omega) rfl rfl rfl rfl ?_); intro v4 w4 hown4 hb4; have hb5 := hb4'.trans hb4; obtain ⟨A4, c4, rfl, hc4, hA4, hr4⟩ := own_ints hown4 (nextF_len fs k hfk).symm (by have := nextF_len fs k hfk; unfold nextF at this; omega); have t6b := (H6.out.below hb5).c0.1; have HR4 := Lib.hid hr4; clear hr4 hown4)))
              all_goals
                go_wp2_with fail
                go_roundg (s.used - (k + 1))
                case measure => have := R.out.1; omega
                case rel =>
                  have hR := R.out.2.2.1
                  rw [show s.used - k = (s.used - (k + 1)) + 1 by omega] at hR
                  exact ⟨k + 1, _, by go_num, Lib.hid ⟨rfl, by omega, hR, hok6, hrs6, (R.out.2.2.2.2.2.trans (Ch.of_below hb5)).trans hch6⟩⟩
            · go_wp2_with fail
              go_end0
              have hR := R.out.2.2.1
              rw [show s.used - k = 0 by omega] at hR
              have hR' : st' = worst many window (losses + 1) fs st := hR
              exact ⟨rfl, by rw [← hR']; exact R.out.2.2.2.2.1, by rw [← hR']; exact R.out.2.2.2.1, R.out.2.2.2.2.2⟩
    · have hu : st.see many window fs = st := HSee.out.2.2.1 G.out (by unfold lessL; rw [if_neg (by omega)]; exact decide_eq_false (by omega))
      have ql : ¬ fs.length < st.best.length := by omega
      have qe : ((fs.length : Int) == st.best.length) = false := by simp; omega
      go_enter Tryd.func65, Tryd.ntmps65
      go_upto_region 3 with (go_at_call 64; go_must (refine hcl.mono ?_; rintro e w1 ⟨rfl, hb1⟩; have k3 := (HM.out.below hb1).c0.1; have kf3 := (HM.out.below hb1).c0.2; have k4 := (HB.out.below hb1).c0.1; have kf4 := (HB.out.below hb1).c0.2))
      have HADV := Lib.hid (show RS w1 bl bw br bm bb bt many window (st.see many window fs) ∧ Ch (fun k => k = bm ∨ k = bb) w w1 from by
        rw [hu]
        exact ⟨HRS.out.below hb1, Ch.of_below hb1⟩)
      generalize w1 = Wl at HADV ⊢
      try clear ql
      try clear qe
      try clear q
      try clear gl
      try clear ge
      clear HSee hu
      by_cases hz : losses = 0
      · have e0 : ((losses : Int) == 0) = true := by simp [hz]
        have HZ := Lib.hid hz
        clear hz
        go_wp2_with fail
        refine bodyPost_ret (results_none rfl _ _ _) rfl ?_
        obtain rfl := HZ.out
        exact ⟨rfl, HADV.out.1, Ws.see_ok hst (by omega), HADV.out.2⟩
      · obtain ⟨losses, rfl⟩ : ∃ l, losses = l + 1 := ⟨losses - 1, by omega⟩
        go_wp2_with fail
        go_loopg [10, 11] (s.used - fs.length) (fun kq v10 v11 W => ∃ (k : Nat) (st' : Ws), v10 = .int .i64 k ∧ Hid (kq = s.used - k ∧ fs.length ≤ k ∧ worstLoop (worst many window losses) fs (s.used - k) k st' = worst many window (losses + 1) fs st ∧ st'.Ok ∧ RS W bl bw br bm bb bt many window st' ∧ Ch (fun k => k = bm ∨ k = bb) w W))
        case atStart => exact ⟨fs.length, _, rfl, Lib.hid ⟨rfl, Nat.le_refl _, by rw [worst, HS.out], Ws.see_ok hst (by omega), HADV.out.1, HADV.out.2⟩⟩
        case round =>
          obtain ⟨k, st', rfl, R⟩ := hrel
          have hku : s.used ≤ 105000 := by have := used_le fs many window hw; rw [HS.out] at this; exact this
          by_cases hk : k < s.used
          · have hfk := R.out.2.1
            have hsub : ((k : Int) - (fs.length : Int)) = ((k - fs.length : Nat) : Int) := by omega
            have hRk := HR.out.ch R.out.2.2.2.2.2 (fun j hj => by rintro (e | e); exact hj.1 e; exact hj.2 e)
            have hclone := cloneInts_calls A c fs wr (hRk.mono fun _ _ => trivial) (by omega)
            obtain ⟨T6, h6⟩ := R.out.2.2.2.2.1.t
            have h6c := h6.c0.1
            have H6 := Lib.hid h6
            have hsz := R.out.2.2.2.2.2.size
            clear hRk h6
            go_upto_region 8 with (first
              | (go_at_call 67; go_must (refine hclone.mono ?_; rintro e w2 ⟨v2, rfl, hown2, hb2⟩))
              | (at_builtin; go_must (obtain ⟨v3, w3, hrun, hown3, hg3⟩ := run_append_zeros w2 wr.heap.size (k - fs.length) 22 v2 fs.length _ hown2 (by omega) hb2.size; refine Lib.wpList_append_run _ rfl _ _ _ _ rfl _ _ rfl rfl _ _ hrun ?_; have hb3 := hb2.grown hg3 hb2.size (fun j hj => own_base hown2 j hj))))
            have hown3' : w3.ownsRow wr.heap.size 3 1 v3 k ((fs ++ List.replicate (k - fs.length) 0).map (Value.int .i64)) := by
              have h := hown3
              rw [show fs.length + (k - fs.length) = k by omega] at h
              rw [List.map_append, List.map_replicate]
              exact h
            have HO3 := Lib.hid hown3'
            have hb3s : wr.heap.size ≤ w3.heap.size := hb3.size
            have t6 := (H6.out.below hb3).c0.1
            have t6d : w3.drew.cell? ⟨bt, 0, none⟩ = some (.func (.func 65) #[] #[.pointer (some ⟨br, 0, none⟩), .pointer (some ⟨bm, 0, none⟩), .pointer (some ⟨bb, 0, none⟩), .pointer (some ⟨bt, 0, none⟩)]) := t6
            have t6a : (w3.alloc (.cells #[.int .i64 1] 3)).cell? ⟨bt, 0, none⟩ = some (.func (.func 65) #[] #[.pointer (some ⟨br, 0, none⟩), .pointer (some ⟨bm, 0, none⟩), .pointer (some ⟨bb, 0, none⟩), .pointer (some ⟨bt, 0, none⟩)]) := ((H6.out.below hb3).alloc _).c0.1
            have t6ad : (w3.alloc (.cells #[.int .i64 1] 3)).drew.cell? ⟨bt, 0, none⟩ = some (.func (.func 65) #[] #[.pointer (some ⟨br, 0, none⟩), .pointer (some ⟨bm, 0, none⟩), .pointer (some ⟨bb, 0, none⟩), .pointer (some ⟨bt, 0, none⟩)]) := t6a
            have hO4 : (w3.alloc (.cells #[.int .i64 1] 3)).ownsRow wr.heap.size 3 1 v3 k ((fs ++ List.replicate (k - fs.length) 0).map (Value.int .i64)) := own_move hown3' (fun j hj => Below.heap_alloc w3 _ j (own_lt hown3' j hj))
            have HO4 : Hid ((w3.alloc (.cells #[.int .i64 1] 3)).drew.ownsRow wr.heap.size 3 1 v3 k ((fs ++ List.replicate (k - fs.length) 0).map (Value.int .i64))) := Lib.hid hO4
            have hc4 : (w3.alloc (.cells #[.int .i64 1] 3)).drew.cell? ⟨w3.heap.size, 0, none⟩ = some (.int .i64 1) := (Blk.new w3 #[.int .i64 1] 3).c0.1
            have hz4 : wr.heap.size ≤ (w3.alloc (.cells #[.int .i64 1] 3)).drew.heap.size := by simp; omega
            have HC4 := Lib.hid hc4
            have hwl : IntKind.i64.wrap (losses : Int) = losses := by rw [IntKind.wrap_i64]; omega
            have hb4' : Below wr.heap.size wr (w3.alloc (.cells #[.int .i64 1] 3)).drew := Below.drew (hb3.alloc hb3s _)
            clear hown2 hown3 hown3' hrun hg3 hO4 hc4
            go_region_held3 (fun w' => w'.cell? ⟨bt, 0, none⟩ = some (.func (.func 65) #[] #[.pointer (some ⟨br, 0, none⟩), .pointer (some ⟨bm, 0, none⟩), .pointer (some ⟨bb, 0, none⟩), .pointer (some ⟨bt, 0, none⟩)])) (first | with_reducible exact t6 | with_reducible exact t6d | with_reducible exact t6a | with_reducible exact t6ad | with_reducible exact t6b | with_reducible exact t6c) ((first
              | (go_at_call 65; have hcall := ih losses (Nat.lt_succ_self _) (by omega) A4 c4 (nextF fs k) st' w4 (R.out.2.2.2.2.1.below hb5) R.out.2.2.2.1 (HR4.out.mono fun j hj => (⟨by show j ≠ bm; omega, by show j ≠ bb; omega⟩ : j ≠ bm ∧ j ≠ bb)) (by rw [nextF_len fs k hfk]; exact hc4) hA4 (by rw [nextF_len fs k hfk]; omega); rw [nextF_len fs k hfk] at hcall; refine hcall.mono ?_; rintro e w6 ⟨rfl, hrs6, hok6, hch6⟩; obtain ⟨T7, h7⟩ := hrs6.t; have t6c := h7.c0.1; clear h7)
              | ((with_reducible show (if Region.wanted { dst := some 67, op := _, type := _, pos := _, after := _, guard := _ } _ = true then _ else _)); go_loud (refine step_append_one (base := wr.heap.size) (xs := fs ++ List.replicate (k - fs.length) 0) HO4.out HC4.out hz4 Tryd.underlying22 infoInt (by omega) rfl rfl rfl rfl ?_); intro v4 w4 hown4 hb4; have hb5 := hb4'.trans hb4; obtain ⟨A4, c4, rfl, hc4, hA4, hr4⟩ := own_ints hown4 (nextF_len fs k hfk).symm (by have := nextF_len fs k hfk; unfold nextF at this; omega); have t6b := (H6.out.below hb5).c0.1; have HR4 := Lib.hid hr4; clear hr4 hown4)))
            all_goals
              go_wp2_with fail
              go_roundg (s.used - (k + 1))
              case measure => have := R.out.1; omega
              case rel =>
                have hR := R.out.2.2.1
                rw [show s.used - k = (s.used - (k + 1)) + 1 by omega] at hR
                exact ⟨k + 1, _, by go_num, Lib.hid ⟨rfl, by omega, hR, hok6, hrs6, (R.out.2.2.2.2.2.trans (Ch.of_below hb5)).trans hch6⟩⟩
          · go_wp2_with fail
            go_end0
            have hR := R.out.2.2.1
            rw [show s.used - k = 0 by omega] at hR
            have hR' : st' = worst many window (losses + 1) fs st := hR
            exact ⟨rfl, by rw [← hR']; exact R.out.2.2.2.2.1, by rw [← hR']; exact R.out.2.2.2.1, R.out.2.2.2.2.2⟩
  · have hu : st.see many window fs = st := HSee.out.2.2.2 g
    have gl : ¬ st.rounds < (rd : Int) := by omega
    have ge : ((rd : Int) == st.rounds) = false := by simp; omega
    go_enter Tryd.func65, Tryd.ntmps65
    go_upto_region 3 with (go_at_call 64; go_must (refine hcl.mono ?_; rintro e w1 ⟨rfl, hb1⟩; have k3 := (HM.out.below hb1).c0.1; have kf3 := (HM.out.below hb1).c0.2; have k4 := (HB.out.below hb1).c0.1; have kf4 := (HB.out.below hb1).c0.2))
    have HADV := Lib.hid (show RS w1 bl bw br bm bb bt many window (st.see many window fs) ∧ Ch (fun k => k = bm ∨ k = bb) w w1 from by
      rw [hu]
      exact ⟨HRS.out.below hb1, Ch.of_below hb1⟩)
    generalize w1 = Wl at HADV ⊢
    try clear ql
    try clear qe
    try clear q
    try clear gl
    try clear ge
    clear HSee hu
    by_cases hz : losses = 0
    · have e0 : ((losses : Int) == 0) = true := by simp [hz]
      have HZ := Lib.hid hz
      clear hz
      go_wp2_with fail
      refine bodyPost_ret (results_none rfl _ _ _) rfl ?_
      obtain rfl := HZ.out
      exact ⟨rfl, HADV.out.1, Ws.see_ok hst (by omega), HADV.out.2⟩
    · obtain ⟨losses, rfl⟩ : ∃ l, losses = l + 1 := ⟨losses - 1, by omega⟩
      go_wp2_with fail
      go_loopg [10, 11] (s.used - fs.length) (fun kq v10 v11 W => ∃ (k : Nat) (st' : Ws), v10 = .int .i64 k ∧ Hid (kq = s.used - k ∧ fs.length ≤ k ∧ worstLoop (worst many window losses) fs (s.used - k) k st' = worst many window (losses + 1) fs st ∧ st'.Ok ∧ RS W bl bw br bm bb bt many window st' ∧ Ch (fun k => k = bm ∨ k = bb) w W))
      case atStart => exact ⟨fs.length, _, rfl, Lib.hid ⟨rfl, Nat.le_refl _, by rw [worst, HS.out], Ws.see_ok hst (by omega), HADV.out.1, HADV.out.2⟩⟩
      case round =>
        obtain ⟨k, st', rfl, R⟩ := hrel
        have hku : s.used ≤ 105000 := by have := used_le fs many window hw; rw [HS.out] at this; exact this
        by_cases hk : k < s.used
        · have hfk := R.out.2.1
          have hsub : ((k : Int) - (fs.length : Int)) = ((k - fs.length : Nat) : Int) := by omega
          have hRk := HR.out.ch R.out.2.2.2.2.2 (fun j hj => by rintro (e | e); exact hj.1 e; exact hj.2 e)
          have hclone := cloneInts_calls A c fs wr (hRk.mono fun _ _ => trivial) (by omega)
          obtain ⟨T6, h6⟩ := R.out.2.2.2.2.1.t
          have h6c := h6.c0.1
          have H6 := Lib.hid h6
          have hsz := R.out.2.2.2.2.2.size
          clear hRk h6
          go_upto_region 8 with (first
            | (go_at_call 67; go_must (refine hclone.mono ?_; rintro e w2 ⟨v2, rfl, hown2, hb2⟩))
            | (at_builtin; go_must (obtain ⟨v3, w3, hrun, hown3, hg3⟩ := run_append_zeros w2 wr.heap.size (k - fs.length) 22 v2 fs.length _ hown2 (by omega) hb2.size; refine Lib.wpList_append_run _ rfl _ _ _ _ rfl _ _ rfl rfl _ _ hrun ?_; have hb3 := hb2.grown hg3 hb2.size (fun j hj => own_base hown2 j hj))))
          have hown3' : w3.ownsRow wr.heap.size 3 1 v3 k ((fs ++ List.replicate (k - fs.length) 0).map (Value.int .i64)) := by
            have h := hown3
            rw [show fs.length + (k - fs.length) = k by omega] at h
            rw [List.map_append, List.map_replicate]
            exact h
          have HO3 := Lib.hid hown3'
          have hb3s : wr.heap.size ≤ w3.heap.size := hb3.size
          have t6 := (H6.out.below hb3).c0.1
          have t6d : w3.drew.cell? ⟨bt, 0, none⟩ = some (.func (.func 65) #[] #[.pointer (some ⟨br, 0, none⟩), .pointer (some ⟨bm, 0, none⟩), .pointer (some ⟨bb, 0, none⟩), .pointer (some ⟨bt, 0, none⟩)]) := t6
          have t6a : (w3.alloc (.cells #[.int .i64 1] 3)).cell? ⟨bt, 0, none⟩ = some (.func (.func 65) #[] #[.pointer (some ⟨br, 0, none⟩), .pointer (some ⟨bm, 0, none⟩), .pointer (some ⟨bb, 0, none⟩), .pointer (some ⟨bt, 0, none⟩)]) := ((H6.out.below hb3).alloc _).c0.1
          have t6ad : (w3.alloc (.cells #[.int .i64 1] 3)).drew.cell? ⟨bt, 0, none⟩ = some (.func (.func 65) #[] #[.pointer (some ⟨br, 0, none⟩), .pointer (some ⟨bm, 0, none⟩), .pointer (some ⟨bb, 0, none⟩), .pointer (some ⟨bt, 0, none⟩)]) := t6a
          have hO4 : (w3.alloc (.cells #[.int .i64 1] 3)).ownsRow wr.heap.size 3 1 v3 k ((fs ++ List.replicate (k - fs.length) 0).map (Value.int .i64)) := own_move hown3' (fun j hj => Below.heap_alloc w3 _ j (own_lt hown3' j hj))
          have HO4 : Hid ((w3.alloc (.cells #[.int .i64 1] 3)).drew.ownsRow wr.heap.size 3 1 v3 k ((fs ++ List.replicate (k - fs.length) 0).map (Value.int .i64))) := Lib.hid hO4
          have hc4 : (w3.alloc (.cells #[.int .i64 1] 3)).drew.cell? ⟨w3.heap.size, 0, none⟩ = some (.int .i64 1) := (Blk.new w3 #[.int .i64 1] 3).c0.1
          have hz4 : wr.heap.size ≤ (w3.alloc (.cells #[.int .i64 1] 3)).drew.heap.size := by simp; omega
          have HC4 := Lib.hid hc4
          have hwl : IntKind.i64.wrap (losses : Int) = losses := by rw [IntKind.wrap_i64]; omega
          have hb4' : Below wr.heap.size wr (w3.alloc (.cells #[.int .i64 1] 3)).drew := Below.drew (hb3.alloc hb3s _)
          clear hown2 hown3 hown3' hrun hg3 hO4 hc4
          go_region_held3 (fun w' => w'.cell? ⟨bt, 0, none⟩ = some (.func (.func 65) #[] #[.pointer (some ⟨br, 0, none⟩), .pointer (some ⟨bm, 0, none⟩), .pointer (some ⟨bb, 0, none⟩), .pointer (some ⟨bt, 0, none⟩)])) (first | with_reducible exact t6 | with_reducible exact t6d | with_reducible exact t6a | with_reducible exact t6ad | with_reducible exact t6b | with_reducible exact t6c) ((first
            | (go_at_call 65; have hcall := ih losses (Nat.lt_succ_self _) (by omega) A4 c4 (nextF fs k) st' w4 (R.out.2.2.2.2.1.below hb5) R.out.2.2.2.1 (HR4.out.mono fun j hj => (⟨by show j ≠ bm; omega, by show j ≠ bb; omega⟩ : j ≠ bm ∧ j ≠ bb)) (by rw [nextF_len fs k hfk]; exact hc4) hA4 (by rw [nextF_len fs k hfk]; omega); rw [nextF_len fs k hfk] at hcall; refine hcall.mono ?_; rintro e w6 ⟨rfl, hrs6, hok6, hch6⟩; obtain ⟨T7, h7⟩ := hrs6.t; have t6c := h7.c0.1; clear h7)
            | ((with_reducible show (if Region.wanted { dst := some 67, op := _, type := _, pos := _, after := _, guard := _ } _ = true then _ else _)); go_loud (refine step_append_one (base := wr.heap.size) (xs := fs ++ List.replicate (k - fs.length) 0) HO4.out HC4.out hz4 Tryd.underlying22 infoInt (by omega) rfl rfl rfl rfl ?_); intro v4 w4 hown4 hb4; have hb5 := hb4'.trans hb4; obtain ⟨A4, c4, rfl, hc4, hA4, hr4⟩ := own_ints hown4 (nextF_len fs k hfk).symm (by have := nextF_len fs k hfk; unfold nextF at this; omega); have t6b := (H6.out.below hb5).c0.1; have HR4 := Lib.hid hr4; clear hr4 hown4)))
          all_goals
            go_wp2_with fail
            go_roundg (s.used - (k + 1))
            case measure => have := R.out.1; omega
            case rel =>
              have hR := R.out.2.2.1
              rw [show s.used - k = (s.used - (k + 1)) + 1 by omega] at hR
              exact ⟨k + 1, _, by go_num, Lib.hid ⟨rfl, by omega, hR, hok6, hrs6, (R.out.2.2.2.2.2.trans (Ch.of_below hb5)).trans hch6⟩⟩
        · go_wp2_with fail
          go_end0
          have hR := R.out.2.2.1
          rw [show s.used - k = 0 by omega] at hR
          have hR' : st' = worst many window (losses + 1) fs st := hR
          exact ⟨rfl, by rw [← hR']; exact R.out.2.2.2.2.1, by rw [← hR']; exact R.out.2.2.2.1, R.out.2.2.2.2.2⟩
end Go.Proofs.YtlkklaahnkcnkaaDoor.X
