/- Two pairs of integers held against each other. -/
import Derived.Test.YtjeojnlkjecojaaDoorArr
import Derived.Test.YtjeojnlkjecojaaDoorRnd
namespace Go.Proofs.YtjeojnlkjecojaaDoor
open Go
theorem size_i64 (w : World) : (sizeOf 3).run Tryd.prog w = .ok 1 w := by kernel_rfl
theorem eq_two (w : World) (a b c d : Int) : (Op.equalIn 10000 22 (.agg #[.int .i64 a, .int .i64 b]) (.agg #[.int .i64 c, .int .i64 d])).run Tryd.prog w = .ok ((a == c) && (b == d)) w :=
  run_equalIn_two w 22 3 .i64 Tryd.underlying22 Tryd.underlying3 size_i64 a b c d
theorem guard_two : Tryd.prog.eqGuardType Tryd.prog.depth 22 = false := by kernel_rfl
/-- The look ahead of a comparison is passed over at once (else the kernel runs the comparison, symbol by symbol). -/
theorem guard_bind {β : Type} (op : BinOp) (x y : Operand) (xs ys : Array Value) (f : Unit → Sem β) (w : World) :
    ((eqGuard op 22 x y (.agg xs) (.agg ys)) >>= f).run Tryd.prog w = (f ()).run Tryd.prog w := by
  rw [Sem.run_bind, run_eqGuard_agg w op 22 x y xs ys guard_two]
  rfl
theorem eql_two (w : World) (a b c d : Int) : (binOp .eql 22 (.agg #[.int .i64 a, .int .i64 b]) (.agg #[.int .i64 c, .int .i64 d])).run Tryd.prog w = .ok (.bool ((a == c) && (b == d))) w := by
  rw [run_eql_struct, eq_two]; rfl
theorem neq_two (w : World) (a b c d : Int) : (binOp .neq 22 (.agg #[.int .i64 a, .int .i64 b]) (.agg #[.int .i64 c, .int .i64 d])).run Tryd.prog w = .ok (.bool (!((a == c) && (b == d)))) w := by
  rw [run_neq_struct, eq_two]; rfl
end Go.Proofs.YtjeojnlkjecojaaDoor
