/- pbref1.WorstOf, whole. -/
import Derived.Test.YtlkklaahnkcnkaaDoorNG
import Derived.Laws.EntriesVeiled
namespace Go.Proofs.YtlkklaahnkcnkaaDoor.X
open Go.RowKit

theorem infoLt2 : (Tryd.prog.info? 47).map (fun i => (i.zero, i.size, i.bytes)) = some (some (.agg #[.string ⟨#[]⟩, .int .i64 0]), 2, 24) := by kernel_rfl
theorem made_lts (w : World) (many : Nat) (hm : many ≤ 100) : (Instr.makeSlice 26 (.int .i64 (many : Int)) (.int .i64 (many : Int))).run Tryd.prog w = .ok (.slice (some ⟨w.heap.size, 0, none⟩) many many) (w.alloc (.cells (madeCells #[.string ⟨#[]⟩, .int .i64 0] (many * 2)) 47)) := by
  obtain ⟨i0, hi, hzz⟩ := Option.map_eq_some_iff.1 infoLt2
  simp only [Prod.mk.injEq] at hzz
  obtain ⟨hz0, hz1, hz2⟩ := hzz
  have h := run_make (P := Tryd.prog) w 26 47 i0 _ Tryd.underlying26 hi hz0 .i64 .i64 (many : Int) (many : Int) (by omega) (Int.le_refl _) (by rw [hz2]; omega) (by omega)
  rw [hz1, Int.toNat_natCast] at h
  rw [h]
  rfl
theorem lts_row {w : World} {g many : Nat} (ok : Nat → Prop) (h : Blk w g (madeCells #[.string ⟨#[]⟩, .int .i64 0] (many * 2)) 47) (ho : ok g) (hm : many ≤ 100) : Row kLt w ok (some ⟨g, 0, none⟩) (noLts many) := by
  refine ⟨by simp [noLts]; omega, fun _ => ⟨_, rfl, ho, fun j p hj => ?_⟩⟩
  have hj' : j < many := by have := (List.getElem?_eq_some_iff.1 hj).1; simpa [noLts] using this
  have hp : p = ⟨ByteArray.empty, 0⟩ := by
    have := (List.getElem?_eq_some_iff.1 hj).2
    simp [noLts] at this
    exact this.symm
  subst hp
  refine ⟨_, kLt_mk _ _ _, fun i u hu => ?_⟩
  have he : ((⟨g, 0, none⟩ : Addr).add (j * kLt.sz + i)) = ⟨g, j * 2 + i, none⟩ := by
    show Addr.add _ (j * 2 + i) = _
    unfold Addr.add
    split <;> simp_all
  rw [he, h.cell]
  match i, hu with
  | 0, hu =>
    obtain rfl : Value.string ByteArray.empty = u := by simpa using hu
    simp [madeCells, show j * 2 < many * 2 by omega]
    rfl
  | 1, hu =>
    obtain rfl : Value.int .i64 0 = u := by simpa using hu
    have h1 : j * 2 + 1 < many * 2 := by omega
    have h2 : (j * 2 + 1) % 2 = 1 := by omega
    simp [madeCells, h1, h2]
set_option maxRecDepth 100000 in
set_option maxHeartbeats 8000000 in
theorem worstOf_calls (many losses window : Nat) (hm : many ≤ 6) (hl : losses ≤ 3) (hw : window ≤ 20) (w : World) :
    Calls Tryd.prog 32 #[.int .i64 many, .int .i64 losses, .int .i64 window] w fun e w' => (∃ A c, e = .returned (.tuple #[.slice A (worst many window losses [] ⟨[], -1⟩).best.length c, .int .i64 (worst many window losses [] ⟨[], -1⟩).rounds]) ∧ Row kInt w' (fun _ => True) A (worst many window losses [] ⟨[], -1⟩).best) ∧ Below w.heap.size w w' := by
  have hmk := made_lts (w.alloc (.cells #[.int .i64 window] 3)) many (by omega)
  rw [worst_start]
  have hsz : ∀ (W : World) (o : Obj), (W.alloc o).heap.size = W.heap.size + 1 := fun W o => by simp
  obtain ⟨W5, hW5⟩ : ∃ W5, W5 = (((((w.alloc (.cells #[.int .i64 window] 3)).alloc (.cells (madeCells #[.string ⟨#[]⟩, .int .i64 0] (many * 2)) 47)).alloc (.cells #[.slice (some ⟨w.heap.size + 1, 0, none⟩) many many] 26)).alloc (.cells #[.func (.func 64) #[] #[.pointer (some ⟨w.heap.size + 1 + 1, 0, none⟩), .pointer (some ⟨w.heap.size, 0, none⟩)]] 121)).alloc (.cells #[.slice none 0 0] 22)) := ⟨_, rfl⟩
  have hbw : Blk W5 w.heap.size #[.int .i64 window] 3 := by
    rw [hW5]; exact ((((Blk.new w _ _).alloc _).alloc _).alloc _).alloc _
  have hlr : Blk W5 (w.heap.size + 1) (madeCells #[.string ⟨#[]⟩, .int .i64 0] (many * 2)) 47 := by
    have h := Blk.new (w.alloc (.cells #[.int .i64 window] 3)) (madeCells #[.string ⟨#[]⟩, .int .i64 0] (many * 2)) 47
    rw [hsz] at h
    rw [hW5]; exact ((h.alloc _).alloc _).alloc _
  have hbl : Blk W5 (w.heap.size + 1 + 1) #[.slice (some ⟨w.heap.size + 1, 0, none⟩) many many] 26 := by
    have h := Blk.new ((w.alloc (.cells #[.int .i64 window] 3)).alloc (.cells (madeCells #[.string ⟨#[]⟩, .int .i64 0] (many * 2)) 47)) #[.slice (some ⟨w.heap.size + 1, 0, none⟩) many many] 26
    rw [hsz, hsz] at h
    rw [hW5]; exact (h.alloc _).alloc _
  have hbr : Blk W5 (w.heap.size + 1 + 1 + 1) #[.func (.func 64) #[] #[.pointer (some ⟨w.heap.size + 1 + 1, 0, none⟩), .pointer (some ⟨w.heap.size, 0, none⟩)]] 121 := by
    have h := Blk.new (((w.alloc (.cells #[.int .i64 window] 3)).alloc (.cells (madeCells #[.string ⟨#[]⟩, .int .i64 0] (many * 2)) 47)).alloc (.cells #[.slice (some ⟨w.heap.size + 1, 0, none⟩) many many] 26)) #[.func (.func 64) #[] #[.pointer (some ⟨w.heap.size + 1 + 1, 0, none⟩), .pointer (some ⟨w.heap.size, 0, none⟩)]] 121
    rw [hsz, hsz, hsz] at h
    rw [hW5]; exact h.alloc _
  have hbb : Blk W5 (w.heap.size + 1 + 1 + 1 + 1) #[.slice none 0 0] 22 := by
    have h := Blk.new ((((w.alloc (.cells #[.int .i64 window] 3)).alloc (.cells (madeCells #[.string ⟨#[]⟩, .int .i64 0] (many * 2)) 47)).alloc (.cells #[.slice (some ⟨w.heap.size + 1, 0, none⟩) many many] 26)).alloc (.cells #[.func (.func 64) #[] #[.pointer (some ⟨w.heap.size + 1 + 1, 0, none⟩), .pointer (some ⟨w.heap.size, 0, none⟩)]] 121)) #[.slice none 0 0] 22
    rw [hsz, hsz, hsz, hsz] at h
    rw [hW5]; exact h
  have hs5 : W5.heap.size = w.heap.size + 1 + 1 + 1 + 1 + 1 := by rw [hW5, hsz, hsz, hsz, hsz, hsz]
  have hB5 : Below w.heap.size w W5 := by
    rw [hW5]; exact below_al (below_al (below_al (below_al (below_al (Below.refl _ _) _) _) _) _) _
  have hcl := rounds1_calls (w.heap.size + 1 + 1) w.heap.size many window _ _ (some ⟨w.heap.size + 1, 0, none⟩) none many 0 [] W5 (by omega) hw hbl hbw (lts_row _ hlr trivial (by omega)) (fun h => by cases h) (Nat.le_refl _) (Row.nil _) (Nat.le_refl _)
  have hrd := (carryF_ok [] many window 5000).2
  generalize (carryF [] many window 5000).1 = rd0 at hcl hrd ⊢
  have key : ∀ w6, Below W5.heap.size W5 w6 → Calls Tryd.prog 65 #[.slice none 0 0, .int .i64 losses, .pointer (some ⟨w.heap.size + 1 + 1 + 1, 0, none⟩), .pointer (some ⟨w6.heap.size, 0, none⟩), .pointer (some ⟨w.heap.size + 1 + 1 + 1 + 1, 0, none⟩), .pointer (some ⟨w6.heap.size + 1, 0, none⟩)] ((w6.alloc (.cells #[.int .i64 rd0] 3)).alloc (.cells #[.func (.func 65) #[] #[.pointer (some ⟨w.heap.size + 1 + 1 + 1, 0, none⟩), .pointer (some ⟨w6.heap.size, 0, none⟩), .pointer (some ⟨w.heap.size + 1 + 1 + 1 + 1, 0, none⟩), .pointer (some ⟨w6.heap.size + 1, 0, none⟩)]] 120)) fun e w' =>
      e = .returned (.tuple #[]) ∧ (∃ A c, Blk w' (w.heap.size + 1 + 1 + 1 + 1) #[.slice A (worst many window losses [] ⟨[], rd0⟩).best.length c] 22 ∧ Row kInt w' (fun _ => True) A (worst many window losses [] ⟨[], rd0⟩).best) ∧ Blk w' w6.heap.size #[.int .i64 (worst many window losses [] ⟨[], rd0⟩).rounds] 3 ∧ Below w.heap.size w w' := by
    intro w6 hb6
    have l6 := hb6.size
    have hB8 : Below W5.heap.size W5 ((w6.alloc (.cells #[.int .i64 rd0] 3)).alloc (.cells #[.func (.func 65) #[] #[.pointer (some ⟨w.heap.size + 1 + 1 + 1, 0, none⟩), .pointer (some ⟨w6.heap.size, 0, none⟩), .pointer (some ⟨w.heap.size + 1 + 1 + 1 + 1, 0, none⟩), .pointer (some ⟨w6.heap.size + 1, 0, none⟩)]] 120)) := below_al (below_al hb6 _) _
    have hbm : Blk ((w6.alloc (.cells #[.int .i64 rd0] 3)).alloc (.cells #[.func (.func 65) #[] #[.pointer (some ⟨w.heap.size + 1 + 1 + 1, 0, none⟩), .pointer (some ⟨w6.heap.size, 0, none⟩), .pointer (some ⟨w.heap.size + 1 + 1 + 1 + 1, 0, none⟩), .pointer (some ⟨w6.heap.size + 1, 0, none⟩)]] 120)) w6.heap.size #[.int .i64 rd0] 3 := (Blk.new w6 _ _).alloc _
    have hbt : Blk ((w6.alloc (.cells #[.int .i64 rd0] 3)).alloc (.cells #[.func (.func 65) #[] #[.pointer (some ⟨w.heap.size + 1 + 1 + 1, 0, none⟩), .pointer (some ⟨w6.heap.size, 0, none⟩), .pointer (some ⟨w.heap.size + 1 + 1 + 1 + 1, 0, none⟩), .pointer (some ⟨w6.heap.size + 1, 0, none⟩)]] 120)) (w6.heap.size + 1) #[.func (.func 65) #[] #[.pointer (some ⟨w.heap.size + 1 + 1 + 1, 0, none⟩), .pointer (some ⟨w6.heap.size, 0, none⟩), .pointer (some ⟨w.heap.size + 1 + 1 + 1 + 1, 0, none⟩), .pointer (some ⟨w6.heap.size + 1, 0, none⟩)]] 120 := by
      have h := Blk.new (w6.alloc (.cells #[.int .i64 rd0] 3)) #[.func (.func 65) #[] #[.pointer (some ⟨w.heap.size + 1 + 1 + 1, 0, none⟩), .pointer (some ⟨w6.heap.size, 0, none⟩), .pointer (some ⟨w.heap.size + 1 + 1 + 1 + 1, 0, none⟩), .pointer (some ⟨w6.heap.size + 1, 0, none⟩)]] 120
      rw [hsz] at h
      exact h
    have hRS : RS ((w6.alloc (.cells #[.int .i64 rd0] 3)).alloc (.cells #[.func (.func 65) #[] #[.pointer (some ⟨w.heap.size + 1 + 1 + 1, 0, none⟩), .pointer (some ⟨w6.heap.size, 0, none⟩), .pointer (some ⟨w.heap.size + 1 + 1 + 1 + 1, 0, none⟩), .pointer (some ⟨w6.heap.size + 1, 0, none⟩)]] 120)) (w.heap.size + 1 + 1) w.heap.size (w.heap.size + 1 + 1 + 1) w6.heap.size (w.heap.size + 1 + 1 + 1 + 1) (w6.heap.size + 1) many window ⟨[], rd0⟩ :=
      ⟨⟨some ⟨w.heap.size + 1, 0, none⟩, many, hbl.below hB8, (fun h => by cases h), Nat.le_refl _, lts_row _ (hlr.below hB8) ⟨by omega, by omega⟩ (by omega)⟩, hbw.below hB8, ⟨_, hbr.below hB8⟩, hbm, ⟨none, 0, hbb.below hB8, Nat.le_refl _, fun _ => rfl, Row.nil _⟩, ⟨_, hbt⟩, by omega, ⟨by omega, by omega⟩, ⟨by omega, by omega⟩, ⟨by omega, by omega⟩, by omega, by omega⟩
    refine (try2_calls _ _ _ _ _ _ many window (by omega) hw losses (by omega) none 0 [] ⟨[], rd0⟩ _ hRS ⟨by simp, by show (-1 : Int) ≤ (rd0 : Int); omega, by show (rd0 : Int) ≤ 5000; omega⟩ (Row.nil _) (Nat.le_refl _) (fun _ => rfl) (by simp)).mono ?_
    rintro e w9 ⟨rfl, hrs9, hok9, hch9⟩
    obtain ⟨A9, c9, hb9, hc9, hA9, hr9⟩ := hrs9.b
    refine ⟨rfl, ⟨A9, c9, hb9, hr9.mono fun _ _ => trivial⟩, hrs9.m, ?_⟩
    have hB0 : Below w.heap.size w ((w6.alloc (.cells #[.int .i64 rd0] 3)).alloc (.cells #[.func (.func 65) #[] #[.pointer (some ⟨w.heap.size + 1 + 1 + 1, 0, none⟩), .pointer (some ⟨w6.heap.size, 0, none⟩), .pointer (some ⟨w.heap.size + 1 + 1 + 1 + 1, 0, none⟩), .pointer (some ⟨w6.heap.size + 1, 0, none⟩)]] 120)) := hB5.trans (hB8.mono hB5.size)
    exact hB0.trans (hch9.low hB0.size (fun k hk e => by rcases e with e | e <;> omega))
  clear hbw hlr hbl hbr hbb
  go_enter Tryd.func32, Tryd.ntmps32
  go_wp2_with (first
    | (go_at_call 64; go_must (rw [← hW5]; refine hcl.mono ?_; rintro e w6 ⟨rfl, hb6⟩; have hk := key w6 hb6))
    | (go_at_call 65; go_must (refine hk.mono ?_; rintro e w9 ⟨rfl, ⟨A9, c9, hb9, hr9⟩, hm9, hB9⟩; have k9 := hb9.c0.1; have k8 := hm9.c0.1)))
  go_quiet (fail)
  go_wp2_with fail
  refine bodyPost_ret (v := .tuple #[.slice A9 (worst many window losses [] ⟨[], rd0⟩).best.length c9, .int .i64 (worst many window losses [] ⟨[], rd0⟩).rounds]) ?_ rfl ?_
  · simp [results, Tryd.results32, go_sem]
  · exact ⟨⟨A9, c9, rfl, hr9⟩, hB9.trans ⟨rfl, rfl, rfl, Nat.le_refl _, fun _ _ => rfl⟩⟩
end Go.Proofs.YtlkklaahnkcnkaaDoor.X
