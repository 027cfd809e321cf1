/- Two accounts that are the same are equal. -/
import Derived.Test.YthhjockofihohaaEq4
namespace Go.Proofs.Ythhjockofihohaa
open Go.RowKit
theorem eq10 (w : World) (a b c0 c1 c2 c3 d0 d1 d2 d3 : Int) : (Op.equalIn 10000 36 (.agg #[.int .i64 a, .int .i64 b, .int .i64 c0, .int .i64 c1, .int .i64 c2, .int .i64 c3, .int .i64 d0, .int .i64 d1, .int .i64 d2, .int .i64 d3]) (.agg #[.int .i64 a, .int .i64 b, .int .i64 c0, .int .i64 c1, .int .i64 c2, .int .i64 c3, .int .i64 d0, .int .i64 d1, .int .i64 d2, .int .i64 d3])).run Try.prog w = .ok true w := by
  have h4 := fun w a b c d => eq4_of 9998 (fun x w => by rw [run_equalIn_int (P := Try.prog) w 9997 3 .i64 .i64 x x Try.underlying3]; simp) w a b c d
  simp [Op.eqFields, part, go_sem, Try.underlying36, Try.isAgg3, Try.isAgg27, h4]
end Go.Proofs.Ythhjockofihohaa
