/- The worst fates: (*lossy.adversary).try, lossy.Worst. -/
import Derived.Test.YtlkklaahnkcnkaaDoorNA
import Derived.Test.YtlkklaahnkcnkaaDoorJ
import Derived.Test.YtlkklaahnkcnkaaDoorR
import Derived.Test.YtlkklaahnkcnkaaDoorC
import Derived.Test.YtlkklaahnkcnkaaDoorA
import Derived.Laws.CopyOwn
namespace Go.Proofs.YtlkklaahnkcnkaaDoor.X
open Go.RowKit

/-- The adversary in memory. -/
def Adv (w : World) (b many window : Nat) (st : Ws) : Prop :=
  ∃ A c, Blk w b #[.int .i64 many, .int .i64 window, .slice A st.best.length c, .int .i64 st.rounds] 119 ∧ st.best.length ≤ c ∧ (A = none → c = 0) ∧ Row kInt w (· ≠ b) A st.best
theorem Own.nocap {α : Type} {d : Kn α} {e : Nat} {w : World} {base : Nat} {ok : Nat → Prop} {A : Option Addr} {n c : Nat} {xs : List α} (h : Own d e w base ok (.slice A n c) xs) : A = none → c = 0 := by
  rintro rfl
  obtain ⟨h1, h2, inner, h3, h4⟩ := h
  rcases h3.2 with ⟨e, _⟩ | ⟨g, cap, cur, e, _⟩
  · injection e
  · cases e
theorem sizeInt : (Tryd.prog.info? 3).map (·.size) = some 1 := by kernel_rfl
theorem made_ints (w : World) (k : Nat) (hk : k ≤ 200000) : (Instr.makeSlice 22 (.int .i64 ((k : Int) + 1)) (.int .i64 ((k : Int) + 1))).run Tryd.prog w = .ok (.slice (some ⟨w.heap.size, 0, none⟩) (k + 1) (k + 1)) (w.alloc (.cells (Array.replicate (k + 1) (Value.int .i64 0)) 3)) := by
  obtain ⟨i0, hi, hzz⟩ := Option.map_eq_some_iff.1 infoInt
  simp only [Prod.mk.injEq] at hzz
  obtain ⟨hz0, hz1, hz2⟩ := hzz
  have h := run_make (P := Tryd.prog) w 22 3 i0 (.int .i64 0) Tryd.underlying22 hi hz0 .i64 .i64 ((k : Int) + 1) ((k : Int) + 1) (by omega) (Int.le_refl _) (by rw [hz2]; omega) (by omega)
  rw [hz1, show ((k : Int) + 1).toNat = k + 1 by omega, Nat.mul_one] at h
  rw [h]
  have e : madeCells (Value.int .i64 0).cells (k + 1) = Array.replicate (k + 1) (Value.int .i64 0) := Array.toList_inj.1 ((toList_madeCells_one _ _).trans Array.toList_replicate.symm)
  rw [e]
theorem new_ints (w : World) (k : Nat) : (w.alloc (.cells (Array.replicate (k + 1) (Value.int .i64 0)) 3)).heap[w.heap.size]? = some (.cells (List.replicate (k + 1) (Value.int .i64 0)).toArray 3 (0, 0)) := by
  rw [List.toArray_replicate]
  exact Blk.new w _ _
theorem copy_src {w : World} {ok : Nat → Prop} {A : Option Addr} {xs : List Int} (h : Row kInt w ok A xs) (o : Obj) (h0 : 0 < (xs.map (Value.int .i64)).length) : ∃ ad, A = some ad ∧ ∀ j v, (xs.map (Value.int .i64))[j]? = some v → (w.alloc o).cell? (ad.add j) = some v := by
  rw [List.length_map] at h0
  obtain ⟨ad, e, _, h2⟩ := (h.alloc o).2 h0
  refine ⟨ad, e, fun j v hj => ?_⟩
  rw [List.getElem?_map] at hj
  obtain ⟨p, hp, rfl⟩ := Option.map_eq_some_iff.1 hj
  obtain ⟨cs, h3, h4⟩ := h2 j p hp
  have h3' : cs = [.int .i64 p] := h3
  subst h3'
  simpa [kInt, scal] using h4 0 _ rfl
theorem made_next (w : World) {g : Nat} (fs : List Int) (k : Nat) (hk : fs.length ≤ k) (h : RowKit.Hid (w.heap[g]? = some (.cells (splice (List.replicate (k + 1) (Value.int .i64 0)) 0 (fs.map (Value.int .i64))).toArray 3 (0, 0)))) :
    Blk w g ((fs ++ List.replicate (k - fs.length) 0 ++ [0]).map (Value.int .i64)).toArray 3 := by
  have e : splice (List.replicate (k + 1) (Value.int .i64 0)) 0 (fs.map (Value.int .i64)) = (fs ++ List.replicate (k - fs.length) 0 ++ [0]).map (Value.int .i64) := by
    unfold splice
    rw [List.take_zero, List.nil_append, Nat.zero_add, List.length_map, List.drop_replicate, List.map_append, List.map_append, List.append_assoc, List.map_replicate]
    congr 1
    rw [show k + 1 - fs.length = (k - fs.length) + 1 by omega, List.replicate_succ']
    rfl
  have h1 := h.out
  rw [e] at h1
  exact h1
theorem made_last {w : World} {g k : Nat} {fs : List Int} (h : Blk w g ((fs ++ List.replicate (k - fs.length) 0 ++ [0]).map (Value.int .i64)).toArray 3) (hk : fs.length ≤ k) : w.cell? ⟨g, k, none⟩ = some (.int .i64 0) ∧ w.frozen? ⟨g, k, none⟩ = false := by
  refine ⟨?_, h.free k⟩
  rw [h.cell, List.getElem?_toArray, List.getElem?_map, List.getElem?_append_right (by simp; omega)]
  have : k - (fs ++ List.replicate (k - fs.length) (0 : Int)).length = 0 := by simp; omega
  rw [this]
  rfl
theorem made_row {w : World} {g k : Nat} {fs : List Int} (h : Blk w g ((fs ++ List.replicate (k - fs.length) 0 ++ [0]).map (Value.int .i64)).toArray 3) (hk : fs.length ≤ k) (hl : k ≤ 200000) {ok : Nat → Prop} (ho : ok g) : Row kInt (w.setCell ⟨g, k, none⟩ (.int .i64 1)) ok (some ⟨g, 0, none⟩) (nextF fs k) := by
  refine Row.lit_scal _ (h.set k (.int .i64 1)) ?_ ho (by rw [nextF_len fs k hk]; omega)
  have hk' : k = (fs ++ List.replicate (k - fs.length) (0 : Int)).length := by simp; omega
  rw [List.setIfInBounds_toArray, List.toList_toArray]
  show _ = (nextF fs k).map (Value.int .i64)
  unfold nextF
  rw [List.map_append, List.map_append (l₂ := [1])]
  rw [List.set_append_right _ _ (by rw [List.length_map]; omega)]
  congr 1
  rw [List.length_map, ← hk', Nat.sub_self]
  rfl
set_option maxRecDepth 100000 in
set_option maxHeartbeats 8000000 in
theorem try_calls (b many window : Nat) (hm : many ≤ 100) (hw : window ≤ 20) : ∀ (losses : Nat), losses ≤ 100 → ∀ (A : Option Addr) (c : Nat) (fs : List Int) (st : Ws) (w : World), Adv w b many window st → st.Ok → Row kInt w (· ≠ b) A fs → fs.length ≤ c → (A = none → c = 0) → fs.length ≤ 110000 →
    Calls Tryd.prog 63 #[.pointer (some ⟨b, 0, none⟩), .slice A fs.length c, .int .i64 losses] w fun e w' => e = .returned (.tuple #[]) ∧ Adv w' b many window (worst many window losses fs st) ∧ (worst many window losses fs st).Ok ∧ But b w w' := by
  intro losses
  induction losses using Nat.strongRecOn with | _ losses ih =>
  intro hls A c fs st w hadv hst hr hc hA hfl
  obtain ⟨A1, c1, hblk, hc1, hA1, hr1⟩ := hadv
  have HR := Lib.hid hr
  have HR1 := Lib.hid hr1
  have HB := Lib.hid hblk
  have hlt := hblk.lt
  have hne : ¬ b = w.heap.size := by omega
  have hne' : ¬ w.heap.size = b := by omega
  have m0 := hblk.c0.1
  have m1 := hblk.c1.1
  obtain ⟨rd, s, hs⟩ : ∃ rd s, carryF fs many window 5000 = (rd, s) := ⟨_, _, rfl⟩
  have HS := Lib.hid hs
  clear hr hr1 hblk hs
  go_enter Tryd.func63, Tryd.ntmps63
  go_upto_region 0 with (fail)
  go_cut [6] (fun p W => ∃ (gb : Nat) (cs : Array Value), p = .pointer (some ⟨gb, 0, none⟩) ∧ Hid (Blk W gb cs 90 ∧ w.heap.size ≤ gb ∧ cs[9]? = some (.int .i64 rd) ∧ cs[13]? = some (.int .i64 s.used) ∧ Below w.heap.size w W))
  case first =>
    go_region_with (go_at_call 62; refine (carry_calls many window 5000 A fs c _ (by omega) (by omega) (by omega) hc (by first | exact (HR.out.mono fun _ _ => trivial) | exact (((HR.out.alloc _).mono fun _ _ => trivial)))).mono ?_; rw [HS.out]; rintro e w1 ⟨A0, A1, A2, A3, A4, n0, n1, n2, n3, n4, c0, c1, c2, c3, c4, heard, rfl, -, hb1⟩; try (have hz := ((Blk.new w #[.int .i64 0, .int .i64 0, .int .i64 0, .slice none 0 0, .slice none 0 0, .slice none 0 0, .slice none 0 0, .bool false, .int .i64 0, .int .i64 0, .int .i64 0, .int .i64 0, .slice none 0 0, .int .i64 0, .bool false] 90).drew).below hb1; have zf := hz.free; have z0 : w1.cell? ⟨w.heap.size, 0, none⟩ = some (.int .i64 0) := (hz.cell 0).trans rfl; have z1 : w1.cell? ⟨w.heap.size, 1, none⟩ = some (.int .i64 0) := (hz.cell 1).trans rfl; have z2 : w1.cell? ⟨w.heap.size, 2, none⟩ = some (.int .i64 0) := (hz.cell 2).trans rfl; have z3 : w1.cell? ⟨w.heap.size, 3, none⟩ = some (.slice none 0 0) := (hz.cell 3).trans rfl; have z4 : w1.cell? ⟨w.heap.size, 4, none⟩ = some (.slice none 0 0) := (hz.cell 4).trans rfl; have z5 : w1.cell? ⟨w.heap.size, 5, none⟩ = some (.slice none 0 0) := (hz.cell 5).trans rfl; have z6 : w1.cell? ⟨w.heap.size, 6, none⟩ = some (.slice none 0 0) := (hz.cell 6).trans rfl; have z7 : w1.cell? ⟨w.heap.size, 7, none⟩ = some (.bool false) := (hz.cell 7).trans rfl; have z8 : w1.cell? ⟨w.heap.size, 8, none⟩ = some (.int .i64 0) := (hz.cell 8).trans rfl; have z9 : w1.cell? ⟨w.heap.size, 9, none⟩ = some (.int .i64 0) := (hz.cell 9).trans rfl; have z10 : w1.cell? ⟨w.heap.size, 10, none⟩ = some (.int .i64 0) := (hz.cell 10).trans rfl; have z11 : w1.cell? ⟨w.heap.size, 11, none⟩ = some (.int .i64 0) := (hz.cell 11).trans rfl; have z12 : w1.cell? ⟨w.heap.size, 12, none⟩ = some (.slice none 0 0) := (hz.cell 12).trans rfl; have z13 : w1.cell? ⟨w.heap.size, 13, none⟩ = some (.int .i64 0) := (hz.cell 13).trans rfl; have z14 : w1.cell? ⟨w.heap.size, 14, none⟩ = some (.bool false) := (hz.cell 14).trans rfl))
    all_goals go_wp2_with fail
    all_goals go_meet
    all_goals first
      | (have hbb : Below w.heap.size w w1 := (Below.drew (Below.refl _ w)).trans hb1
         exact ⟨w1.heap.size, _, rfl, Lib.hid ⟨Blk.new w1 #[.int .i64 many, .int .i64 s.acked, .int .i64 s.rc.accepted, .slice A0 n0 c0, .slice A1 n1 c1, .slice A2 n2 c2, .slice A3 n3 c3, .bool heard, .int .i64 s.rc.waste, .int .i64 rd, .int .i64 s.packets, .int .i64 s.acks, .slice A4 n4 c4, .int .i64 s.used, .bool (decide (many ≤ s.acked))] _, hbb.size, rfl, rfl, below_al hbb _⟩⟩)
      | (have hbb : Below w.heap.size w w1 := (((Below.refl w.heap.size w).alloc (Nat.le_refl _) (.cells #[.int .i64 0, .int .i64 0, .int .i64 0, .slice none 0 0, .slice none 0 0, .slice none 0 0, .slice none 0 0, .bool false, .int .i64 0, .int .i64 0, .int .i64 0, .int .i64 0, .slice none 0 0, .int .i64 0, .bool false] 90)).drew).trans (hb1.mono (by simp))
         exact ⟨w.heap.size, _, rfl, Lib.hid ⟨hz.stored [.int .i64 many, .int .i64 s.acked, .int .i64 s.rc.accepted, .slice A0 n0 c0, .slice A1 n1 c1, .slice A2 n2 c2, .slice A3 n3 c3, .bool heard, .int .i64 s.rc.waste, .int .i64 rd, .int .i64 s.packets, .int .i64 s.acks, .slice A4 n4 c4, .int .i64 s.used, .bool (decide (many ≤ s.acked))] rfl, Nat.le_refl _, rfl, rfl, hbb.trans (((Ch.refl (fun k => k = w.heap.size) w1).setsW (b := w.heap.size) [.int .i64 many, .int .i64 s.acked, .int .i64 s.rc.accepted, .slice A0 n0 c0, .slice A1 n1 c1, .slice A2 n2 c2, .slice A3 n3 c3, .bool heard, .int .i64 s.rc.waste, .int .i64 rd, .int .i64 s.packets, .int .i64 s.acks, .slice A4 n4 c4, .int .i64 s.used, .bool (decide (many ≤ s.acked))] 0 (.inl rfl)).low hbb.size fun k hk e => by omega)⟩⟩)
      | trace_state
  case rest =>
    obtain ⟨gb, cs, rfl, R0⟩ := hcut
    have HSee := Lib.hid (see_cases many window st fs rd (by rw [HS.out]))
    have hgb : gb ≠ b := by have := R0.out.2.1; omega
    have hB0 := HB.out.below R0.out.2.2.2.2
    have k2 := hB0.c2.1
    have k3 := hB0.c3.1
    have q9 := (R0.out.1.cell 9).trans R0.out.2.2.1
    have q13 := (R0.out.1.cell 13).trans R0.out.2.2.2.1
    have HB0 := Lib.hid hB0
    have HRc := Lib.hid (HR.out.but (But.of_below (g := b) R0.out.2.2.2.2) (by simp))
    have HR1c := Lib.hid (HR1.out.but (But.of_below (g := b) R0.out.2.2.2.2) (by simp))
    clear hB0 m0 m1
    rcases Int.lt_trichotomy st.rounds rd with g | g | g
    · have g' : ¬ (rd : Int) < st.rounds := by omega
      go_upto_region 1 with (fail)
      go_quiet (fail)
      go_wp2_with fail
      have hu : st.see many window fs = ⟨fs, rd⟩ := HSee.out.1 g
      have HBW : Hid (Blk (wc.drewN nq) b #[.int .i64 many, .int .i64 window, .slice A1 st.best.length c1, .int .i64 st.rounds] 119) := HB0
      have HGW : Hid (Blk (wc.drewN nq) gb cs 90) := Lib.hid R0.out.1
      have HKW : Hid (Below w.heap.size w (wc.drewN nq)) := Lib.hid (R0.out.2.2.2.2.trans ⟨rfl, rfl, rfl, Nat.le_refl _, fun _ _ => rfl⟩)
      have q9W : (wc.drewN nq).cell? ⟨gb, 9, none⟩ = some (.int .i64 rd) := q9
      generalize wc.drewN nq = W0 at *
      have HRW := Lib.hid (HR.out.but (But.of_below (g := b) HKW.out) (by simp) : Row kInt W0 (· ≠ b) A fs)
      go_region_held_law (fun w' => w'.cell? ⟨gb, 9, none⟩ = some (.int .i64 rd)) (first | exact q9W | exact r9 | exact ((HX.out.2.1.far (p := ⟨b, 2, none⟩) hgb _).cell 9).trans R0.out.2.2.1 | exact ((HX.out.2.1.far (p := ⟨b, 3, none⟩) hgb _).cell 9).trans R0.out.2.2.1 | exact (((HX.out.2.1.far (p := ⟨b, 2, none⟩) hgb _).far (p := ⟨b, 3, none⟩) hgb _).cell 9).trans R0.out.2.2.1 | exact (((HX.out.2.1.far (p := ⟨b, 3, none⟩) hgb _).far (p := ⟨b, 2, none⟩) hgb _).cell 9).trans R0.out.2.2.1) ((refine step_row_copy (d := kInt) (base := W0.heap.size) (xs := fs) (ok := (· ≠ b)) (by exact HRW.out) hA rfl ⟨by simp, .inl ⟨rfl, rfl⟩⟩ (fun k hk e => by simp [Value.ownBlock] at e) (Nat.le_refl _) Tryd.underlying22 infoInt rfl (by omega) rfl rfl rfl rfl ?_; intro v1 w2 hO hg; obtain ⟨Av, cv, rfl, hcv, hrv⟩ := hO.row; have hcap := Own.nocap hO; have HO := Lib.hid (And.intro hO hg); have hch : Ch (fun _ => False) W0 w2 := ⟨hg.os, hg.tape, hg.output, hg.size, fun k hk _ => hg.block k hk (fun e => (by simp [Value.ownBlock] at e))⟩; have hB3 := HBW.out.ch hch (fun e => e); have hG3 := HGW.out.ch hch (fun e => e); obtain ⟨t2, tf2⟩ := hB3.c2; obtain ⟨t3, tf3⟩ := hB3.c3; have r9 : w2.cell? ⟨gb, 9, none⟩ = some (.int .i64 rd) := (hG3.cell 9).trans R0.out.2.2.1; have HX := Lib.hid (And.intro hB3 (And.intro hG3 hch)); clear hO hg hB3 hG3 hch hrv))
      go_upto_region 3 with (fail)
      have hlb := HBW.out.lt
      have HADV := Lib.hid (show Adv ((w2.setCell ⟨b, 2, none⟩ (.slice Av fs.length cv)).setCell ⟨b, 3, none⟩ (.int .i64 rd)) b many window (st.see many window fs) ∧ Blk ((w2.setCell ⟨b, 2, none⟩ (.slice Av fs.length cv)).setCell ⟨b, 3, none⟩ (.int .i64 rd)) gb cs 90 ∧ But b w ((w2.setCell ⟨b, 2, none⟩ (.slice Av fs.length cv)).setCell ⟨b, 3, none⟩ (.int .i64 rd)) from by
        rw [hu]
        have hO := (HO.out.1.mono (ok' := (· ≠ b)) (fun k hk => by rcases hk with hk | hk; exact hk; show k ≠ b; omega))
        obtain ⟨A', c', e', hc', hr'⟩ := ((hO.far (p := ⟨b, 2, none⟩) (by simp) (.slice Av fs.length cv)).far (p := ⟨b, 3, none⟩) (by simp) (.int .i64 rd)).row
        obtain ⟨rfl, rfl⟩ : Av = A' ∧ cv = c' := by simpa using e'
        exact ⟨⟨Av, cv, ((HX.out.1.set 2 _).set 3 _), hc', hcap, hr'⟩, (HX.out.2.1.far (p := ⟨b, 2, none⟩) hgb _).far (p := ⟨b, 3, none⟩) hgb _, (((But.of_below HKW.out).trans (HX.out.2.2.but fun k _ e => e.elim)).set 2 _).set 3 _⟩)
      generalize World.setCell (w2.setCell ⟨b, 2, none⟩ (.slice Av fs.length cv)) ⟨b, 3, none⟩ (.int .i64 rd) = Wl at HADV ⊢
      clear HSee hu
      by_cases hz : losses = 0
      · have e0 : ((losses : Int) == 0) = true := by simp [hz]
        have HZ := Lib.hid hz
        clear hz
        go_wp2_with fail
        refine bodyPost_ret (results_none rfl _ _ _) rfl ?_
        obtain rfl := HZ.out
        exact ⟨rfl, HADV.out.1, Ws.see_ok hst (by omega), HADV.out.2.2⟩
      · obtain ⟨losses, rfl⟩ : ∃ l, losses = l + 1 := ⟨losses - 1, by omega⟩
        go_wp2_with fail
        go_loopg [7, 8] (s.used - fs.length) (fun kq v7 v8 W => ∃ (k : Nat) (st' : Ws), v7 = .int .i64 k ∧ Hid (kq = s.used - k ∧ fs.length ≤ k ∧ worstLoop (worst many window losses) fs (s.used - k) k st' = worst many window (losses + 1) fs st ∧ st'.Ok ∧ Adv W b many window st' ∧ Blk W gb cs 90 ∧ But b w W))
        case atStart => exact ⟨fs.length, _, rfl, Lib.hid ⟨rfl, Nat.le_refl _, by rw [worst, HS.out], Ws.see_ok hst (by omega), HADV.out.1, HADV.out.2.1, HADV.out.2.2⟩⟩
        case round =>
          obtain ⟨k, st', rfl, R⟩ := hrel
          have r13 := (R.out.2.2.2.2.2.1.cell 13).trans R0.out.2.2.2.1
          have hku : s.used ≤ 105000 := by have := used_le fs many window hw; rw [HS.out] at this; exact this
          by_cases hk : k < s.used
          · have hfk := R.out.2.1
            have hmk : (Instr.makeSlice 22 (.int .i64 ((k : Int) + 1)) (.int .i64 ((k : Int) + 1))).run Tryd.prog wr = .ok (.slice (some ⟨wr.heap.size, 0, none⟩) (k + 1) (k + 1)) (wr.alloc (.cells (Array.replicate (k + 1) (Value.int .i64 0)) 3)) := made_ints wr k (by omega)
            have HRk := Lib.hid (HR.out.but R.out.2.2.2.2.2.2 (by simp) : Row kInt wr (· ≠ b) A fs)
            go_wp2_with (first
              | ((with_reducible show Go.wpList _ _ _ ({ dst := some 71, op := _, type := _, pos := _, after := _, guard := _ } :: _) _ _); go_must (refine wpList_copy_splice rfl _ _ 22 22 rfl 3 Tryd.underlying22 sizeInt (some ⟨wr.heap.size, 0, none⟩) A (k + 1) (k + 1) fs.length c rfl rfl wr.heap.size 0 (List.replicate (k + 1) (Value.int .i64 0)) 3 (new_ints wr k) (fs.map (Value.int .i64)) (by rw [List.length_map]; exact (Nat.min_eq_left (by omega)).symm) (fun h => ⟨rfl, copy_src HRk.out _ h⟩) (by rw [List.length_map, List.length_replicate]; omega) (by intro v hv; obtain ⟨n, _, rfl⟩ := List.mem_map.1 hv; rfl) wr.heap.size _ (Below.refl _ _) (Nat.le_refl _) ?_; intro w3 hg3 hb3; have hN3 := made_next w3 fs k hfk hg3; obtain ⟨x3, xf3⟩ := made_last hN3 hfk; have HN3 := Lib.hid hN3; clear hN3))
              | (go_at_call 63; go_must (have hb4 : Below wr.heap.size wr (w3.setCell ⟨wr.heap.size, k, none⟩ (.int .i64 1)) := (((Below.refl wr.heap.size wr).alloc (Nat.le_refl _) _).trans hb3).setCell (p := ⟨wr.heap.size, k, none⟩) (Nat.le_refl _) _; have hbw := R.out.2.2.2.2.2.2.size; obtain ⟨Ax, cx, hbx, hcx, hAx, hrx⟩ := R.out.2.2.2.2.1; have hcall := ih losses (Nat.lt_succ_self _) (by omega) (some ⟨wr.heap.size, 0, none⟩) (k + 1) (nextF fs k) st' _ ⟨Ax, cx, hbx.below hb4, hcx, hAx, hrx.below hb4⟩ R.out.2.2.2.1 (made_row HN3.out hfk (by omega) (show wr.heap.size ≠ b by omega)) (by rw [nextF_len fs k hfk]; omega) (fun h => by cases h) (by rw [nextF_len fs k hfk]; omega); rw [nextF_len fs k hfk] at hcall; refine hcall.mono ?_; rintro e w5 ⟨rfl, hadv5, hok5, hbut5⟩)))
            go_roundg (s.used - (k + 1))
            case measure => have := R.out.1; omega
            case rel =>
              have hR := R.out.2.2.1
              rw [show s.used - k = (s.used - (k + 1)) + 1 by omega] at hR
              exact ⟨k + 1, _, by go_num, Lib.hid ⟨rfl, by omega, hR, hok5, hadv5, (R.out.2.2.2.2.2.1.below hb4).but hbut5 hgb, (R.out.2.2.2.2.2.2.trans (But.of_below hb4)).trans hbut5⟩⟩
          · go_wp2_with fail
            go_end0
            have hR := R.out.2.2.1
            rw [show s.used - k = 0 by omega] at hR
            have hR' : st' = worst many window (losses + 1) fs st := hR
            exact ⟨rfl, by rw [← hR']; exact R.out.2.2.2.2.1, by rw [← hR']; exact R.out.2.2.2.1, R.out.2.2.2.2.2.2⟩
    · have gl : ¬ st.rounds < (rd : Int) := by omega
      have ge : ((rd : Int) == st.rounds) = true := by simp [g]
      have G := Lib.hid g.symm
      clear g
      cases hl : lessL fs st.best
      · go_upto_region 1 with (fail)
        go_region_held3 (fun w' => w'.cell? ⟨gb, 9, none⟩ = some (.int .i64 rd) ∧ w'.cell? ⟨b, 3, none⟩ = some (.int .i64 st.rounds) ∧ w'.cell? ⟨b, 2, none⟩ = some (.slice A1 st.best.length c1)) (first | exact ⟨q9, k3, k2⟩ | exact ⟨q9', k3', k2'⟩) ((go_at_call 99; refine (isLess_calls A A1 fs st.best c c1 _ (by exact HRc.out.mono fun _ _ => trivial) (by exact HR1c.out.mono fun _ _ => trivial)).mono ?_; rw [hl]; rintro e w2 ⟨rfl, hb2⟩; have hb3 : Below wc.heap.size wc w2 := (by first | exact hb2 | exact (Below.drew (Below.refl _ wc)).trans hb2); have q9' := ((R0.out.1.below hb3).cell 9).trans R0.out.2.2.1; have k3' := (HB0.out.below hb3).c3.1; have k2' := (HB0.out.below hb3).c2.1))
        go_upto_region 3 with (fail)
        have hu : st.see many window fs = st := HSee.out.2.2.1 G.out hl
        have HADV : Hid (Adv w2 b many window (st.see many window fs) ∧ Blk w2 gb cs 90 ∧ But b w w2) := Lib.hid ⟨by rw [hu]; exact ⟨A1, c1, HB0.out.below hb3, hc1, hA1, HR1c.out.below hb3⟩, R0.out.1.below hb3, (But.of_below R0.out.2.2.2.2).trans (But.of_below hb3)⟩
        generalize w2 = Wl at HADV ⊢
        clear HSee hu
        by_cases hz : losses = 0
        · have e0 : ((losses : Int) == 0) = true := by simp [hz]
          have HZ := Lib.hid hz
          clear hz
          go_wp2_with fail
          refine bodyPost_ret (results_none rfl _ _ _) rfl ?_
          obtain rfl := HZ.out
          exact ⟨rfl, HADV.out.1, Ws.see_ok hst (by omega), HADV.out.2.2⟩
        · obtain ⟨losses, rfl⟩ : ∃ l, losses = l + 1 := ⟨losses - 1, by omega⟩
          go_wp2_with fail
          go_loopg [7, 8] (s.used - fs.length) (fun kq v7 v8 W => ∃ (k : Nat) (st' : Ws), v7 = .int .i64 k ∧ Hid (kq = s.used - k ∧ fs.length ≤ k ∧ worstLoop (worst many window losses) fs (s.used - k) k st' = worst many window (losses + 1) fs st ∧ st'.Ok ∧ Adv W b many window st' ∧ Blk W gb cs 90 ∧ But b w W))
          case atStart => exact ⟨fs.length, _, rfl, Lib.hid ⟨rfl, Nat.le_refl _, by rw [worst, HS.out], Ws.see_ok hst (by omega), HADV.out.1, HADV.out.2.1, HADV.out.2.2⟩⟩
          case round =>
            obtain ⟨k, st', rfl, R⟩ := hrel
            have r13 := (R.out.2.2.2.2.2.1.cell 13).trans R0.out.2.2.2.1
            have hku : s.used ≤ 105000 := by have := used_le fs many window hw; rw [HS.out] at this; exact this
            by_cases hk : k < s.used
            · have hfk := R.out.2.1
              have hmk : (Instr.makeSlice 22 (.int .i64 ((k : Int) + 1)) (.int .i64 ((k : Int) + 1))).run Tryd.prog wr = .ok (.slice (some ⟨wr.heap.size, 0, none⟩) (k + 1) (k + 1)) (wr.alloc (.cells (Array.replicate (k + 1) (Value.int .i64 0)) 3)) := made_ints wr k (by omega)
              have HRk := Lib.hid (HR.out.but R.out.2.2.2.2.2.2 (by simp) : Row kInt wr (· ≠ b) A fs)
              go_wp2_with (first
                | ((with_reducible show Go.wpList _ _ _ ({ dst := some 71, op := _, type := _, pos := _, after := _, guard := _ } :: _) _ _); go_must (refine wpList_copy_splice rfl _ _ 22 22 rfl 3 Tryd.underlying22 sizeInt (some ⟨wr.heap.size, 0, none⟩) A (k + 1) (k + 1) fs.length c rfl rfl wr.heap.size 0 (List.replicate (k + 1) (Value.int .i64 0)) 3 (new_ints wr k) (fs.map (Value.int .i64)) (by rw [List.length_map]; exact (Nat.min_eq_left (by omega)).symm) (fun h => ⟨rfl, copy_src HRk.out _ h⟩) (by rw [List.length_map, List.length_replicate]; omega) (by intro v hv; obtain ⟨n, _, rfl⟩ := List.mem_map.1 hv; rfl) wr.heap.size _ (Below.refl _ _) (Nat.le_refl _) ?_; intro w3 hg3 hb3; have hN3 := made_next w3 fs k hfk hg3; obtain ⟨x3, xf3⟩ := made_last hN3 hfk; have HN3 := Lib.hid hN3; clear hN3))
                | (go_at_call 63; go_must (have hb4 : Below wr.heap.size wr (w3.setCell ⟨wr.heap.size, k, none⟩ (.int .i64 1)) := (((Below.refl wr.heap.size wr).alloc (Nat.le_refl _) _).trans hb3).setCell (p := ⟨wr.heap.size, k, none⟩) (Nat.le_refl _) _; have hbw := R.out.2.2.2.2.2.2.size; obtain ⟨Ax, cx, hbx, hcx, hAx, hrx⟩ := R.out.2.2.2.2.1; have hcall := ih losses (Nat.lt_succ_self _) (by omega) (some ⟨wr.heap.size, 0, none⟩) (k + 1) (nextF fs k) st' _ ⟨Ax, cx, hbx.below hb4, hcx, hAx, hrx.below hb4⟩ R.out.2.2.2.1 (made_row HN3.out hfk (by omega) (show wr.heap.size ≠ b by omega)) (by rw [nextF_len fs k hfk]; omega) (fun h => by cases h) (by rw [nextF_len fs k hfk]; omega); rw [nextF_len fs k hfk] at hcall; refine hcall.mono ?_; rintro e w5 ⟨rfl, hadv5, hok5, hbut5⟩)))
              go_roundg (s.used - (k + 1))
              case measure => have := R.out.1; omega
              case rel =>
                have hR := R.out.2.2.1
                rw [show s.used - k = (s.used - (k + 1)) + 1 by omega] at hR
                exact ⟨k + 1, _, by go_num, Lib.hid ⟨rfl, by omega, hR, hok5, hadv5, (R.out.2.2.2.2.2.1.below hb4).but hbut5 hgb, (R.out.2.2.2.2.2.2.trans (But.of_below hb4)).trans hbut5⟩⟩
            · go_wp2_with fail
              go_end0
              have hR := R.out.2.2.1
              rw [show s.used - k = 0 by omega] at hR
              have hR' : st' = worst many window (losses + 1) fs st := hR
              exact ⟨rfl, by rw [← hR']; exact R.out.2.2.2.2.1, by rw [← hR']; exact R.out.2.2.2.1, R.out.2.2.2.2.2.2⟩
      · go_upto_region 1 with (fail)
        go_region_held3 (fun w' => w'.cell? ⟨gb, 9, none⟩ = some (.int .i64 rd) ∧ w'.cell? ⟨b, 3, none⟩ = some (.int .i64 st.rounds) ∧ w'.cell? ⟨b, 2, none⟩ = some (.slice A1 st.best.length c1)) (first | exact ⟨q9, k3, k2⟩ | exact ⟨q9', k3', k2'⟩) ((go_at_call 99; refine (isLess_calls A A1 fs st.best c c1 _ (by exact HRc.out.mono fun _ _ => trivial) (by exact HR1c.out.mono fun _ _ => trivial)).mono ?_; rw [hl]; rintro e w2 ⟨rfl, hb2⟩; have hb3 : Below wc.heap.size wc w2 := (by first | exact hb2 | exact (Below.drew (Below.refl _ wc)).trans hb2); have q9' := ((R0.out.1.below hb3).cell 9).trans R0.out.2.2.1; have k3' := (HB0.out.below hb3).c3.1; have k2' := (HB0.out.below hb3).c2.1))
        go_upto_region 2 with (fail)
        have hu : st.see many window fs = ⟨fs, rd⟩ := HSee.out.2.1 G.out hl
        have HBW := Lib.hid (HB0.out.below hb3)
        have HGW := Lib.hid (R0.out.1.below hb3)
        have HKW : Hid (Below w.heap.size w w2) := Lib.hid (R0.out.2.2.2.2.trans (hb3.mono R0.out.2.2.2.2.size))
        have q9W := q9'
        generalize w2 = W0 at *
        have HRW := Lib.hid (HR.out.but (But.of_below (g := b) HKW.out) (by simp) : Row kInt W0 (· ≠ b) A fs)
        go_region_held_law (fun w' => w'.cell? ⟨gb, 9, none⟩ = some (.int .i64 rd)) (first | exact q9W | exact r9 | exact ((HX.out.2.1.far (p := ⟨b, 2, none⟩) hgb _).cell 9).trans R0.out.2.2.1 | exact ((HX.out.2.1.far (p := ⟨b, 3, none⟩) hgb _).cell 9).trans R0.out.2.2.1 | exact (((HX.out.2.1.far (p := ⟨b, 2, none⟩) hgb _).far (p := ⟨b, 3, none⟩) hgb _).cell 9).trans R0.out.2.2.1 | exact (((HX.out.2.1.far (p := ⟨b, 3, none⟩) hgb _).far (p := ⟨b, 2, none⟩) hgb _).cell 9).trans R0.out.2.2.1) ((refine step_row_copy (d := kInt) (base := W0.heap.size) (xs := fs) (ok := (· ≠ b)) (by exact HRW.out) hA rfl ⟨by simp, .inl ⟨rfl, rfl⟩⟩ (fun k hk e => by simp [Value.ownBlock] at e) (Nat.le_refl _) Tryd.underlying22 infoInt rfl (by omega) rfl rfl rfl rfl ?_; intro v1 w2 hO hg; obtain ⟨Av, cv, rfl, hcv, hrv⟩ := hO.row; have hcap := Own.nocap hO; have HO := Lib.hid (And.intro hO hg); have hch : Ch (fun _ => False) W0 w2 := ⟨hg.os, hg.tape, hg.output, hg.size, fun k hk _ => hg.block k hk (fun e => (by simp [Value.ownBlock] at e))⟩; have hB3 := HBW.out.ch hch (fun e => e); have hG3 := HGW.out.ch hch (fun e => e); obtain ⟨t2, tf2⟩ := hB3.c2; obtain ⟨t3, tf3⟩ := hB3.c3; have r9 : w2.cell? ⟨gb, 9, none⟩ = some (.int .i64 rd) := (hG3.cell 9).trans R0.out.2.2.1; have HX := Lib.hid (And.intro hB3 (And.intro hG3 hch)); clear hO hg hB3 hG3 hch hrv))
        go_upto_region 3 with (fail)
        have hlb := HBW.out.lt
        have HADV := Lib.hid (show Adv ((w2.setCell ⟨b, 2, none⟩ (.slice Av fs.length cv)).setCell ⟨b, 3, none⟩ (.int .i64 rd)) b many window (st.see many window fs) ∧ Blk ((w2.setCell ⟨b, 2, none⟩ (.slice Av fs.length cv)).setCell ⟨b, 3, none⟩ (.int .i64 rd)) gb cs 90 ∧ But b w ((w2.setCell ⟨b, 2, none⟩ (.slice Av fs.length cv)).setCell ⟨b, 3, none⟩ (.int .i64 rd)) from by
          rw [hu]
          have hO := (HO.out.1.mono (ok' := (· ≠ b)) (fun k hk => by rcases hk with hk | hk; exact hk; show k ≠ b; omega))
          obtain ⟨A', c', e', hc', hr'⟩ := ((hO.far (p := ⟨b, 2, none⟩) (by simp) (.slice Av fs.length cv)).far (p := ⟨b, 3, none⟩) (by simp) (.int .i64 rd)).row
          obtain ⟨rfl, rfl⟩ : Av = A' ∧ cv = c' := by simpa using e'
          exact ⟨⟨Av, cv, ((HX.out.1.set 2 _).set 3 _), hc', hcap, hr'⟩, (HX.out.2.1.far (p := ⟨b, 2, none⟩) hgb _).far (p := ⟨b, 3, none⟩) hgb _, (((But.of_below HKW.out).trans (HX.out.2.2.but fun k _ e => e.elim)).set 2 _).set 3 _⟩)
        generalize World.setCell (w2.setCell ⟨b, 2, none⟩ (.slice Av fs.length cv)) ⟨b, 3, none⟩ (.int .i64 rd) = Wl at HADV ⊢
        clear HSee hu
        by_cases hz : losses = 0
        · have e0 : ((losses : Int) == 0) = true := by simp [hz]
          have HZ := Lib.hid hz
          clear hz
          go_wp2_with fail
          refine bodyPost_ret (results_none rfl _ _ _) rfl ?_
          obtain rfl := HZ.out
          exact ⟨rfl, HADV.out.1, Ws.see_ok hst (by omega), HADV.out.2.2⟩
        · obtain ⟨losses, rfl⟩ : ∃ l, losses = l + 1 := ⟨losses - 1, by omega⟩
          go_wp2_with fail
          go_loopg [7, 8] (s.used - fs.length) (fun kq v7 v8 W => ∃ (k : Nat) (st' : Ws), v7 = .int .i64 k ∧ Hid (kq = s.used - k ∧ fs.length ≤ k ∧ worstLoop (worst many window losses) fs (s.used - k) k st' = worst many window (losses + 1) fs st ∧ st'.Ok ∧ Adv W b many window st' ∧ Blk W gb cs 90 ∧ But b w W))
          case atStart => exact ⟨fs.length, _, rfl, Lib.hid ⟨rfl, Nat.le_refl _, by rw [worst, HS.out], Ws.see_ok hst (by omega), HADV.out.1, HADV.out.2.1, HADV.out.2.2⟩⟩
          case round =>
            obtain ⟨k, st', rfl, R⟩ := hrel
            have r13 := (R.out.2.2.2.2.2.1.cell 13).trans R0.out.2.2.2.1
            have hku : s.used ≤ 105000 := by have := used_le fs many window hw; rw [HS.out] at this; exact this
            by_cases hk : k < s.used
            · have hfk := R.out.2.1
              have hmk : (Instr.makeSlice 22 (.int .i64 ((k : Int) + 1)) (.int .i64 ((k : Int) + 1))).run Tryd.prog wr = .ok (.slice (some ⟨wr.heap.size, 0, none⟩) (k + 1) (k + 1)) (wr.alloc (.cells (Array.replicate (k + 1) (Value.int .i64 0)) 3)) := made_ints wr k (by omega)
              have HRk := Lib.hid (HR.out.but R.out.2.2.2.2.2.2 (by simp) : Row kInt wr (· ≠ b) A fs)
              go_wp2_with (first
                | ((with_reducible show Go.wpList _ _ _ ({ dst := some 71, op := _, type := _, pos := _, after := _, guard := _ } :: _) _ _); go_must (refine wpList_copy_splice rfl _ _ 22 22 rfl 3 Tryd.underlying22 sizeInt (some ⟨wr.heap.size, 0, none⟩) A (k + 1) (k + 1) fs.length c rfl rfl wr.heap.size 0 (List.replicate (k + 1) (Value.int .i64 0)) 3 (new_ints wr k) (fs.map (Value.int .i64)) (by rw [List.length_map]; exact (Nat.min_eq_left (by omega)).symm) (fun h => ⟨rfl, copy_src HRk.out _ h⟩) (by rw [List.length_map, List.length_replicate]; omega) (by intro v hv; obtain ⟨n, _, rfl⟩ := List.mem_map.1 hv; rfl) wr.heap.size _ (Below.refl _ _) (Nat.le_refl _) ?_; intro w3 hg3 hb3; have hN3 := made_next w3 fs k hfk hg3; obtain ⟨x3, xf3⟩ := made_last hN3 hfk; have HN3 := Lib.hid hN3; clear hN3))
                | (go_at_call 63; go_must (have hb4 : Below wr.heap.size wr (w3.setCell ⟨wr.heap.size, k, none⟩ (.int .i64 1)) := (((Below.refl wr.heap.size wr).alloc (Nat.le_refl _) _).trans hb3).setCell (p := ⟨wr.heap.size, k, none⟩) (Nat.le_refl _) _; have hbw := R.out.2.2.2.2.2.2.size; obtain ⟨Ax, cx, hbx, hcx, hAx, hrx⟩ := R.out.2.2.2.2.1; have hcall := ih losses (Nat.lt_succ_self _) (by omega) (some ⟨wr.heap.size, 0, none⟩) (k + 1) (nextF fs k) st' _ ⟨Ax, cx, hbx.below hb4, hcx, hAx, hrx.below hb4⟩ R.out.2.2.2.1 (made_row HN3.out hfk (by omega) (show wr.heap.size ≠ b by omega)) (by rw [nextF_len fs k hfk]; omega) (fun h => by cases h) (by rw [nextF_len fs k hfk]; omega); rw [nextF_len fs k hfk] at hcall; refine hcall.mono ?_; rintro e w5 ⟨rfl, hadv5, hok5, hbut5⟩)))
              go_roundg (s.used - (k + 1))
              case measure => have := R.out.1; omega
              case rel =>
                have hR := R.out.2.2.1
                rw [show s.used - k = (s.used - (k + 1)) + 1 by omega] at hR
                exact ⟨k + 1, _, by go_num, Lib.hid ⟨rfl, by omega, hR, hok5, hadv5, (R.out.2.2.2.2.2.1.below hb4).but hbut5 hgb, (R.out.2.2.2.2.2.2.trans (But.of_below hb4)).trans hbut5⟩⟩
            · go_wp2_with fail
              go_end0
              have hR := R.out.2.2.1
              rw [show s.used - k = 0 by omega] at hR
              have hR' : st' = worst many window (losses + 1) fs st := hR
              exact ⟨rfl, by rw [← hR']; exact R.out.2.2.2.2.1, by rw [← hR']; exact R.out.2.2.2.1, R.out.2.2.2.2.2.2⟩
    · have g' : ¬ st.rounds < (rd : Int) := by omega
      have ge : ((rd : Int) == st.rounds) = false := by simp; omega
      go_upto_region 1 with (fail)
      go_quiet (fail)
      go_upto_region 3 with (fail)
      have hu : st.see many window fs = st := HSee.out.2.2.2 g
      have HADV : Hid (Adv (wc.drewN nq) b many window (st.see many window fs) ∧ Blk (wc.drewN nq) gb cs 90 ∧ But b w (wc.drewN nq)) := Lib.hid ⟨by rw [hu]; exact ⟨A1, c1, HB0.out, hc1, hA1, HR1c.out⟩, R0.out.1, (But.of_below R0.out.2.2.2.2).drewN _⟩
      generalize wc.drewN nq = Wl at HADV ⊢
      clear HSee hu
      by_cases hz : losses = 0
      · have e0 : ((losses : Int) == 0) = true := by simp [hz]
        have HZ := Lib.hid hz
        clear hz
        go_wp2_with fail
        refine bodyPost_ret (results_none rfl _ _ _) rfl ?_
        obtain rfl := HZ.out
        exact ⟨rfl, HADV.out.1, Ws.see_ok hst (by omega), HADV.out.2.2⟩
      · obtain ⟨losses, rfl⟩ : ∃ l, losses = l + 1 := ⟨losses - 1, by omega⟩
        go_wp2_with fail
        go_loopg [7, 8] (s.used - fs.length) (fun kq v7 v8 W => ∃ (k : Nat) (st' : Ws), v7 = .int .i64 k ∧ Hid (kq = s.used - k ∧ fs.length ≤ k ∧ worstLoop (worst many window losses) fs (s.used - k) k st' = worst many window (losses + 1) fs st ∧ st'.Ok ∧ Adv W b many window st' ∧ Blk W gb cs 90 ∧ But b w W))
        case atStart => exact ⟨fs.length, _, rfl, Lib.hid ⟨rfl, Nat.le_refl _, by rw [worst, HS.out], Ws.see_ok hst (by omega), HADV.out.1, HADV.out.2.1, HADV.out.2.2⟩⟩
        case round =>
          obtain ⟨k, st', rfl, R⟩ := hrel
          have r13 := (R.out.2.2.2.2.2.1.cell 13).trans R0.out.2.2.2.1
          have hku : s.used ≤ 105000 := by have := used_le fs many window hw; rw [HS.out] at this; exact this
          by_cases hk : k < s.used
          · have hfk := R.out.2.1
            have hmk : (Instr.makeSlice 22 (.int .i64 ((k : Int) + 1)) (.int .i64 ((k : Int) + 1))).run Tryd.prog wr = .ok (.slice (some ⟨wr.heap.size, 0, none⟩) (k + 1) (k + 1)) (wr.alloc (.cells (Array.replicate (k + 1) (Value.int .i64 0)) 3)) := made_ints wr k (by omega)
            have HRk := Lib.hid (HR.out.but R.out.2.2.2.2.2.2 (by simp) : Row kInt wr (· ≠ b) A fs)
            go_wp2_with (first
              | ((with_reducible show Go.wpList _ _ _ ({ dst := some 71, op := _, type := _, pos := _, after := _, guard := _ } :: _) _ _); go_must (refine wpList_copy_splice rfl _ _ 22 22 rfl 3 Tryd.underlying22 sizeInt (some ⟨wr.heap.size, 0, none⟩) A (k + 1) (k + 1) fs.length c rfl rfl wr.heap.size 0 (List.replicate (k + 1) (Value.int .i64 0)) 3 (new_ints wr k) (fs.map (Value.int .i64)) (by rw [List.length_map]; exact (Nat.min_eq_left (by omega)).symm) (fun h => ⟨rfl, copy_src HRk.out _ h⟩) (by rw [List.length_map, List.length_replicate]; omega) (by intro v hv; obtain ⟨n, _, rfl⟩ := List.mem_map.1 hv; rfl) wr.heap.size _ (Below.refl _ _) (Nat.le_refl _) ?_; intro w3 hg3 hb3; have hN3 := made_next w3 fs k hfk hg3; obtain ⟨x3, xf3⟩ := made_last hN3 hfk; have HN3 := Lib.hid hN3; clear hN3))
              | (go_at_call 63; go_must (have hb4 : Below wr.heap.size wr (w3.setCell ⟨wr.heap.size, k, none⟩ (.int .i64 1)) := (((Below.refl wr.heap.size wr).alloc (Nat.le_refl _) _).trans hb3).setCell (p := ⟨wr.heap.size, k, none⟩) (Nat.le_refl _) _; have hbw := R.out.2.2.2.2.2.2.size; obtain ⟨Ax, cx, hbx, hcx, hAx, hrx⟩ := R.out.2.2.2.2.1; have hcall := ih losses (Nat.lt_succ_self _) (by omega) (some ⟨wr.heap.size, 0, none⟩) (k + 1) (nextF fs k) st' _ ⟨Ax, cx, hbx.below hb4, hcx, hAx, hrx.below hb4⟩ R.out.2.2.2.1 (made_row HN3.out hfk (by omega) (show wr.heap.size ≠ b by omega)) (by rw [nextF_len fs k hfk]; omega) (fun h => by cases h) (by rw [nextF_len fs k hfk]; omega); rw [nextF_len fs k hfk] at hcall; refine hcall.mono ?_; rintro e w5 ⟨rfl, hadv5, hok5, hbut5⟩)))
            go_roundg (s.used - (k + 1))
            case measure => have := R.out.1; omega
            case rel =>
              have hR := R.out.2.2.1
              rw [show s.used - k = (s.used - (k + 1)) + 1 by omega] at hR
              exact ⟨k + 1, _, by go_num, Lib.hid ⟨rfl, by omega, hR, hok5, hadv5, (R.out.2.2.2.2.2.1.below hb4).but hbut5 hgb, (R.out.2.2.2.2.2.2.trans (But.of_below hb4)).trans hbut5⟩⟩
          · go_wp2_with fail
            go_end0
            have hR := R.out.2.2.1
            rw [show s.used - k = 0 by omega] at hR
            have hR' : st' = worst many window (losses + 1) fs st := hR
            exact ⟨rfl, by rw [← hR']; exact R.out.2.2.2.2.1, by rw [← hR']; exact R.out.2.2.2.1, R.out.2.2.2.2.2.2⟩
end Go.Proofs.YtlkklaahnkcnkaaDoor.X
