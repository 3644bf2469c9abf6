/- Hear and Disclose at a nil receiver. -/
import Derived.Test.YtmegiodajkeahaaDoorChC6
namespace Go.Proofs.YtmegiodajkeahaaDoor
open Go Go.RowKit
theorem hear_nil (i : Int) (B : Value) (t : Int) (lo hi : Int) (w : World) : Calls Tryd.prog 26 #[.pointer none, .int .i64 i, B, .int .u64 t, .agg #[.int .i64 lo, .int .i64 hi]] w fun e w' => e = .returned (.int .i64 1) ∧ Below w.heap.size w w' := by
  have B1 := (Below.refl w.heap.size w).alloc (Nat.le_refl _) (.cells #[.int .i64 lo, .int .i64 hi] 43)
  go_enter Tryd.func26, Tryd.ntmps26
  go_wp2
  go_ret
  exact ⟨rfl, B1⟩
theorem disclose_nil (i k0 k1 : Int) (w : World) : Calls Tryd.prog 28 #[.pointer none, .int .i64 i, .agg #[.int .u64 k0, .int .u64 k1]] w fun e w' => e = .returned (.tuple #[.slice none 0 0, .int .i64 1]) ∧ Below w.heap.size w w' := by
  have B1 := (Below.refl w.heap.size w).alloc (Nat.le_refl _) (.cells #[.int .u64 k0, .int .u64 k1] 37)
  go_enter Tryd.func28, Tryd.ntmps28
  go_wp2
  go_ret2
  exact ⟨rfl, B1⟩
end Go.Proofs.YtmegiodajkeahaaDoor
