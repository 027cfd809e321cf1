/- The body-less functions of math as the walk's equations: bits, truncation, rounding. -/
import Derived.Test.YtgppjajkhdhcaaaRows
import Derived.Test.YtgppjajkhdhcaaaFl
import Derived.WalkKit
import Derived.WalkLawsBesides
import Derived.Laws.Externs
namespace Go.Proofs.Ytgppjajkhdhcaaa
open Go.RowKit

theorem bits_run (b : Nat) (w : World) : (callFunc 20 #[.float .f64 b]).run Try.prog w = .ok (.value (.int .u64 b)) w := by
  rw [run_callFunc_extern (e := Extern.MathFloatBits.float64bits) Try.func20 (by kernel_rfl) (by kernel_rfl) (by kernel_rfl) (by kernel_rfl)]
  rfl
theorem from_run (n : Int) (w : World) : (callFunc 30 #[.int .u64 n]).run Try.prog w = .ok (.value (.float .f64 n.toNat)) w := by
  rw [run_callFunc_extern (e := Extern.MathFloatBits.float64frombits) Try.func30 (by kernel_rfl) (by kernel_rfl) (by kernel_rfl) (by kernel_rfl)]
  rfl
theorem integral_run (name : String) (way : Ieee.Toward) {b : Nat} (h : ¬ Fl.Nan b) (w : World) :
    (Extern.MathFloor.toIntegral name way #[.float .f64 b]).run Try.prog w = .ok (.float .f64 (Ieee.double.write ((Ieee.double.read b).integral way))) w := by
  have e : Extern.MathFloor.toIntegral name way #[.float .f64 b] = (match FloatKind.f64.decode b with
    | .nan s t =>
      if FloatKind.f64.format.quiet t = t then pure (.float .f64 b) else do
      let kept ← choose (.extern "math.Floor,Ceil,Trunc,RoundToEven.signallingNaN kept" 2)
      pure (.float .f64 (if kept == 1 then b else FloatKind.f64.encode (.nan s (FloatKind.f64.format.quiet t))))
    | d => pure (.float .f64 (FloatKind.f64.encode (d.integral way)))) := rfl
  rw [e]
  rcases Fl.kinds b with hb | hb | hb
  · obtain ⟨m, i, hr, _⟩ := Fl.read_fin hb
    have hd : FloatKind.f64.decode b = .number (Fl.ng b) m i := hr
    rw [hd, hr]; rfl
  · have hd : FloatKind.f64.decode b = .infinity (Fl.ng b) := Fl.read_inf hb
    rw [hd, Fl.read_inf hb]; rfl
  · exact absurd hb h
theorem trunc_run {b : Nat} (h : ¬ Fl.Nan b) (w : World) : (callFunc 47 #[.float .f64 b]).run Try.prog w = .ok (.value (.float .f64 (Ieee.double.write ((Ieee.double.read b).integral .zero)))) w := by
  rw [run_callFunc_extern (e := Extern.MathFloor.toIntegral "math.archTrunc" .zero) Try.func47 (by kernel_rfl) (by kernel_rfl) (by kernel_rfl) (by kernel_rfl)]
  rw [integral_run _ _ h]; rfl
end Go.Proofs.Ytgppjajkhdhcaaa
