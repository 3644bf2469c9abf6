/- Two intervals held against each other. -/
import Derived.Test.YtjeojnlkjecojaaDoorMem
import Derived.Laws.StructEq
import Derived.Test.YtjeojnlkjecojaaDoorProg
namespace Go.Proofs.YtjeojnlkjecojaaDoor
open Go
theorem eq_iv (w : World) (a b c d : Int) : (Op.equalIn 10000 35 (.agg #[.int .i64 a, .int .i64 b]) (.agg #[.int .i64 c, .int .i64 d])).run Tryd.prog w = .ok ((a == c) && (b == d)) w := by
  rw [run_equalIn_struct w 9999 35 _ _ Tryd.underlying35 (by kernel_rfl)]
  simp [go_sem]
  by_cases h : a = c
  · by_cases h2 : b = d
    · simp [h, h2]
    · simp [h, h2]
  · simp [h]
theorem guard_iv : Tryd.prog.eqGuardType Tryd.prog.depth 35 = false := by kernel_rfl
theorem guard_bind_iv {β : Type} (op : BinOp) (x y : Operand) (xs ys : Array Value) (f : Unit → Sem β) (w : World) :
    ((eqGuard op 35 x y (.agg xs) (.agg ys)) >>= f).run Tryd.prog w = (f ()).run Tryd.prog w := by
  rw [Sem.run_bind, run_eqGuard_agg w op 35 x y xs ys guard_iv]
  rfl
theorem eql_iv (w : World) (a b c d : Int) : (binOp .eql 35 (.agg #[.int .i64 a, .int .i64 b]) (.agg #[.int .i64 c, .int .i64 d])).run Tryd.prog w = .ok (.bool ((a == c) && (b == d))) w := by
  rw [run_eql_struct, eq_iv]; rfl
theorem neq_iv (w : World) (a b c d : Int) : (binOp .neq 35 (.agg #[.int .i64 a, .int .i64 b]) (.agg #[.int .i64 c, .int .i64 d])).run Tryd.prog w = .ok (.bool (!((a == c) && (b == d)))) w := by
  rw [run_neq_struct, eq_iv]; rfl
end Go.Proofs.YtjeojnlkjecojaaDoor
