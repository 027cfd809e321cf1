/- Two arrays of four numbers that are the same are equal. -/
import Derived.Test.YthhjockofihohaaLedM
namespace Go.Proofs.Ythhjockofihohaa
open Go.RowKit
theorem eq4_of (e : Nat) (hi : ∀ (x : Int) (w : World), (Op.equalIn e 3 (.int .i64 x) (.int .i64 x)).run Try.prog w = .ok true w) (w : World) (a b c d : Int) : (Op.equalIn (e + 1) 27 (.agg #[.int .i64 a, .int .i64 b, .int .i64 c, .int .i64 d]) (.agg #[.int .i64 a, .int .i64 b, .int .i64 c, .int .i64 d])).run Try.prog w = .ok true w := by
  simp only [Op.equalIn, Sem.run_bind, run_underlying Try.underlying27, Result.andThen_ok]
  simp [part, go_sem]
  rw [show List.range' 0 4 = [0, 1, 2, 3] from rfl]
  simp [go_sem, hi, Try.isAgg3]
theorem eq4 (w : World) (a b c d : Int) : (Op.equalIn 10000 27 (.agg #[.int .i64 a, .int .i64 b, .int .i64 c, .int .i64 d]) (.agg #[.int .i64 a, .int .i64 b, .int .i64 c, .int .i64 d])).run Try.prog w = .ok true w :=
  eq4_of 9999 (fun x w => by rw [run_equalIn_int (P := Try.prog) w 9998 3 .i64 .i64 x x Try.underlying3]; simp) w a b c d
end Go.Proofs.Ythhjockofihohaa
