/- The contracts of Mix: the program's (its rounds are read out of timesync/prng.rounds) and the reference's. -/
import Derived.Test.YtjeojnlkjecojaaDoorRnd
import Derived.Test.YtjeojnlkjecojaaDoorMix
namespace Go.Proofs.YtjeojnlkjecojaaDoor
open Go Go.RowKit

theorem refMix_any (a b : Int) (w : World) : Calls Tryd.prog 38 #[.int .u64 a, .int .u64 b] w fun e w' => e = .returned (.int .u64 (Pl.mix a b)) ∧ w = w' := by
  go_enter Tryd.func38, Tryd.ntmps38
  go_wp2
  go_ret
  exact ⟨ret_int (by rw [Pl.wrap_start, Pl.mix_walk]), rfl⟩

theorem mix_any (a b : Int) (w : World) (hR : Rnd w) : Calls Tryd.prog 26 #[.int .u64 a, .int .u64 b] w fun e w' => e = .returned (.int .u64 (Pl.mix a b)) ∧ Below w.heap.size w w' := by
  obtain ⟨t, fr, hr⟩ := hR
  have i0 : ∀ w : World, (Instr.index 67 (.agg rcells) (.int .i64 0)).run Tryd.prog w = .ok (.agg #[.int .u64 30, .int .u64 13787848793156543929]) w := fun _ => by kernel_rfl
  have i1 : ∀ w : World, (Instr.index 67 (.agg rcells) (.int .i64 1)).run Tryd.prog w = .ok (.agg #[.int .u64 27, .int .u64 10723151780598845931]) w := fun _ => by kernel_rfl
  have i2 : ∀ w : World, (Instr.index 67 (.agg rcells) (.int .i64 2)).run Tryd.prog w = .ok (.agg #[.int .u64 31, .int .u64 1]) w := fun _ => by kernel_rfl
  go_enter Tryd.func26, Tryd.ntmps26
  go_wp2_with (refine wpList_load_row rfl 67 _ rfl 0 rfl t rcells fr _ hr Tryd.underlying67 rfl (by kernel_rfl) ?_)
  refine wp_loop_rounds 4 ?_
  rw [rounds_succ]
  go_wp2
  rw [rounds_succ]
  go_wp2
  rw [rounds_succ]
  go_wp2
  rw [rounds_succ]
  go_wp2
  go_ret
  exact ⟨ret_int (by rw [Pl.wrap_start, Pl.mix_walk, Pl.wrap_mix]), by go_grown⟩
end Go.Proofs.YtjeojnlkjecojaaDoor
