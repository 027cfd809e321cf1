/- The walk of QuoteTicks: both Ticks are Fl.tk. -/
import Derived.Test.YtpdkjjhcpaoioaaRank
import Derived.Deep.Draws
namespace Go.Proofs.Ytpdkjjhcpaoioaa
open Go.RowKit
theorem float_lt {b : Nat} (h : (Lit.float .f64 b).wf = true) : b < 18446744073709551616 := by
  have e : (Lit.float .f64 b).wf = decide (b < 2 ^ 64) := rfl
  rw [e] at h; exact of_decide_eq_true h
theorem below_drewN (w : World) (n : Nat) : Below w.heap.size w (w.drewN n) := ⟨rfl, rfl, rfl, Nat.le_refl _, fun _ _ => rfl⟩
theorem QuoteTicks_walk (p : Nat) (hp : (Lit.float .f64 p).wf = true) (k : Int) (_hk : (Lit.int .i64 k).wf = true) (w : World) :
    Calls Try.prog 3 #[.float .f64 p, .int .i64 k] w fun e w' => e = .returned (.bool true) ∧ Below w.heap.size w w' := by
  have hp' := float_lt hp
  clear hp
  generalize hz : (Fl.tk p k).1 = z1
  generalize hz2 : (Fl.tk p k).2 = z2
  have h1 := fun w => ticks_calls p k w hp'
  have h2 := fun w => refTicks_calls p k w hp'
  rw [hz, hz2] at h1 h2
  have H1 := fun w => Lib.hid (h1 w)
  have H2 := fun w => Lib.hid (h2 w)
  clear h1 h2 hz hz2
  go_enter Try.func3, Try.ntmps3
  go_wp2_with (first
    | (go_at_call 13; (with_reducible refine (H1 _).out.mono ?_); rintro e w' ⟨rfl, n1, rfl⟩)
    | (go_at_call 14; (with_reducible refine (H2 _).out.mono ?_); rintro e w' ⟨rfl, n2, rfl⟩)
    | (go_at_call 15; (with_reducible refine (awake_calls _).mono ?_); rintro e w' ⟨rfl, n3, rfl⟩))
  go_ret
  exact ⟨rfl, below_drewN _ _⟩
end Go.Proofs.Ytpdkjjhcpaoioaa
