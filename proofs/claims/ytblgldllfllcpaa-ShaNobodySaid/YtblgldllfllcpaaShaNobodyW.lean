/- The walk of ShaNobody: a hash that New did not give takes nothing and tells nothing. -/
import Derived.Test.YtblgldllfllcpaaAwake
namespace Go.Proofs.Ytblgldllfllcpaa
open Go.RowKit
theorem write_nil (s : ByteArray) (w : World) : Calls Try.prog 15 #[.pointer none, .string s] w fun e w' => e = .returned (.tuple #[]) ∧ w' = w := by
  go_enter Try.func15, Try.ntmps15
  go_wp2
  exact bodyPost_ret (results_none rfl _ _ _) rfl ⟨rfl, rfl⟩
theorem write_shut (s : ByteArray) (g : Nat) (w : World) (h : w.cell? ⟨g, 0, none⟩ = some (.bool false)) : Calls Try.prog 15 #[.pointer (some ⟨g, 0, none⟩), .string s] w fun e w' => e = .returned (.tuple #[]) ∧ w' = w := by
  go_enter Try.func15, Try.ntmps15
  go_wp2
  exact bodyPost_ret (results_none rfl _ _ _) rfl ⟨rfl, rfl⟩
theorem hsum_nil (w : World) : Calls Try.prog 14 #[.pointer none] w fun e w' => e = .returned (.string ⟨#[]⟩) ∧ w' = w := by
  go_enter Try.func14, Try.ntmps14
  go_wp2
  go_ret
  exact ⟨rfl, rfl⟩
theorem hsum_shut (g : Nat) (w : World) (h : w.cell? ⟨g, 0, none⟩ = some (.bool false)) : Calls Try.prog 14 #[.pointer (some ⟨g, 0, none⟩)] w fun e w' => e = .returned (.string ⟨#[]⟩) ∧ w' = w := by
  go_enter Try.func14, Try.ntmps14
  go_wp2
  go_ret
  exact ⟨rfl, rfl⟩
theorem shut_new (w : World) (t : TypeId) (cs : Array Value) (h : cs[0]? = some (.bool false)) : (w.alloc (.cells cs t)).cell? ⟨w.heap.size, 0, none⟩ = some (.bool false) := by
  rw [(Blk.new w _ _).cell]; exact h
theorem ShaNobody_walk (s : ByteArray) (_hs : s.size ≤ 140737488351232) (w : World) :
    Calls Try.prog 6 #[.string s] w fun e w' => e = .returned (.bool true) ∧ Below w.heap.size w w' := by
  go_enter Try.func6, Try.ntmps6
  go_wp2_with (first
    | (go_at_call 15; (first | (with_reducible refine (write_nil _ _).mono ?_) | (refine (write_shut _ _ _ (shut_new _ _ _ rfl)).mono ?_)); rintro e w1 ⟨rfl, rfl⟩)
    | (go_at_call 14; (first | (with_reducible refine (hsum_nil _).mono ?_) | (refine (hsum_shut _ _ (shut_new _ _ _ rfl)).mono ?_)); rintro e w1 ⟨rfl, rfl⟩)
    | (go_at_call 12; (with_reducible refine (awake_calls _).mono ?_); rintro e w2 ⟨rfl, hb⟩))
  go_ret
  exact ⟨rfl, ((Below.refl _ _).alloc (Nat.le_refl _) _).trans (hb.mono (by simp))⟩
end Go.Proofs.Ytblgldllfllcpaa
