/- Two keys held against each other. -/
import Derived.Test.YtmegiodajkeahaaDoorArr
import Derived.Test.YtmegiodajkeahaaDoorRnd
namespace Go.Proofs.YtmegiodajkeahaaDoor
open Go
theorem size_u64 (w : World) : (sizeOf 24).run Tryd.prog w = .ok 1 w := by kernel_rfl
theorem eq_key (w : World) (a b c d : Int) : (Op.equalIn 10000 37 (.agg #[.int .u64 a, .int .u64 b]) (.agg #[.int .u64 c, .int .u64 d])).run Tryd.prog w = .ok ((a == c) && (b == d)) w :=
  run_equalIn_two w 37 24 .u64 Tryd.underlying37 Tryd.underlying24 size_u64 a b c d
theorem guard_key : Tryd.prog.eqGuardType Tryd.prog.depth 37 = false := by kernel_rfl
/-- The look ahead of a comparison is passed over at once (else the kernel runs the comparison, symbol by symbol). -/
theorem guard_bind {β : Type} (op : BinOp) (x y : Operand) (xs ys : Array Value) (f : Unit → Sem β) (w : World) :
    ((eqGuard op 37 x y (.agg xs) (.agg ys)) >>= f).run Tryd.prog w = (f ()).run Tryd.prog w := by
  rw [Sem.run_bind, run_eqGuard_agg w op 37 x y xs ys guard_key]
  rfl
theorem eql_key (w : World) (a b c d : Int) : (binOp .eql 37 (.agg #[.int .u64 a, .int .u64 b]) (.agg #[.int .u64 c, .int .u64 d])).run Tryd.prog w = .ok (.bool ((a == c) && (b == d))) w := by
  rw [run_eql_struct, eq_key]; rfl
theorem neq_key (w : World) (a b c d : Int) : (binOp .neq 37 (.agg #[.int .u64 a, .int .u64 b]) (.agg #[.int .u64 c, .int .u64 d])).run Tryd.prog w = .ok (.bool (!((a == c) && (b == d)))) w := by
  rw [run_neq_struct, eq_key]; rfl
end Go.Proofs.YtmegiodajkeahaaDoor
