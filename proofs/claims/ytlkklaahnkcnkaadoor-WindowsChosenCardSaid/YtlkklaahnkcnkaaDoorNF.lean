/- The reference's worst fates: what one run of its closures does. -/
import Derived.Test.YtlkklaahnkcnkaaDoorNA
import Derived.Test.YtlkklaahnkcnkaaDoorNE
import Derived.Test.YtlkklaahnkcnkaaDoorT
namespace Go.Proofs.YtlkklaahnkcnkaaDoor.X
open Go.RowKit

def noLts (many : Nat) : List Lt := List.replicate many ⟨ByteArray.empty, 0⟩
set_option maxHeartbeats 2000000 in
/-- rounds(f). -/
theorem rounds1_calls (bl bw many window : Nat) (T1 T2 : Nat) (AL A : Option Addr) (cl c : Nat) (fs : List Int) (w : World) (hm : many ≤ 100) (hw : window ≤ 20) (h1 : Blk w bl #[.slice AL many cl] T1) (h2 : Blk w bw #[.int .i64 window] T2)
    (hr : Row kLt w (fun _ => True) AL (noLts many)) (hA : AL = none → cl = 0) (hmc : many ≤ cl) (hf : Row kInt w (fun _ => True) A fs) (hc : fs.length ≤ c) :
    Calls Tryd.prog 64 #[.slice A fs.length c, .pointer (some ⟨bl, 0, none⟩), .pointer (some ⟨bw, 0, none⟩)] w fun e w' => e = .returned (.tuple #[.int .i64 (carryF fs many window 5000).1, .int .i64 (carryF fs many window 5000).2.used]) ∧ Below w.heap.size w w' := by
  have hl : (noLts many).length = many := List.length_replicate
  have hcar := carriedBy_calls AL A (noLts many) fs cl c window 5000 w hr hA (by omega) hf hc (by omega) (by omega) (by omega)
  rw [hl] at hcar
  have hu := used_eq fs many window 5000
  have hk := (carryF_ok fs many window 5000).1.small (by omega) (by have := (carryF_ok fs many window 5000).2; omega)
  generalize (carryF fs many window 5000).1 = rd at hcar
  generalize (carryF fs many window 5000).2 = s at hcar hu hk
  have k1 := h1.c0.1
  have k2 := h2.c0.1
  have hpk := hk.2.1
  have hak := hk.2.2.1
  clear hk h1 h2 hr hf
  go_enter Tryd.func64, Tryd.ntmps64
  go_wp2_with (go_at_call 17; go_must (refine hcar.mono ?_; rintro e w1 ⟨v1, v2, rfl, -, -, hb1⟩))
  go_quiet (fail)
  go_wp2_with fail
  refine bodyPost_ret (v := .tuple #[.int .i64 rd, .int .i64 ((s.packets : Int) + s.acks)]) ?_ rfl ⟨by rw [hu]; rfl, (below_al hb1 _).trans ⟨rfl, rfl, rfl, Nat.le_refl _, fun _ _ => rfl⟩⟩
  simp [results, Tryd.results64, go_sem]
end Go.Proofs.YtlkklaahnkcnkaaDoor.X
