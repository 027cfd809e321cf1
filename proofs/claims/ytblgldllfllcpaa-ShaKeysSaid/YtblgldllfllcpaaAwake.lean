/- The contract of awake: the chapter's example is reckoned. -/
import Derived.Test.YtblgldllfllcpaaSSum
namespace Go.Proofs.Ytblgldllfllcpaa
open Go.RowKit
def abc : ByteArray := ⟨#[97, 98, 99]⟩
theorem abc_head : (dig abc).extract 0 4 = ⟨#[186, 120, 22, 191]⟩ := by decide +kernel
theorem abc_tail : (dig abc).extract 28 32 = ⟨#[242, 0, 21, 173]⟩ := by decide +kernel
theorem awake_calls (w : World) : Calls Try.prog 12 #[] w fun e w' => e = .returned (.bool true) ∧ Below w.heap.size w w' := by
  have h1 := abc_head
  have h2 := abc_tail
  have h3 := dig_size abc
  have HC : ∀ w, Calls Try.prog 10 #[.string ⟨#[97, 98, 99]⟩] w fun e w' => e = .returned (.string (dig abc)) ∧ Below w.heap.size w w' := fun w => ssum_calls _ w (by decide)
  have HH := Lib.hid HC
  clear HC
  generalize dig abc = d at *
  go_enter Try.func12, Try.ntmps12
  go_wp2_with (first
    | (go_at_call 10; (with_reducible refine (HH.out _).mono ?_); rintro e w1 ⟨rfl, hb⟩))
  go_ret
  exact ⟨rfl, hb⟩
end Go.Proofs.Ytblgldllfllcpaa
