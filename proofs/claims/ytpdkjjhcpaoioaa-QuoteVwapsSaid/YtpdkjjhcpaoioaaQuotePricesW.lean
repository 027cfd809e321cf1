/- The walk of QuotePrices: both Prices are one word, which has as many ticks again. -/
import Derived.Test.YtpdkjjhcpaoioaaQuoteTicksW
namespace Go.Proofs.Ytpdkjjhcpaoioaa
open Go.RowKit
set_option maxHeartbeats 400000 in
theorem QuotePrices_walk (n : Int) (_hn : (Lit.int .i64 n).wf = true) (k : Int) (_hk : (Lit.int .i64 k).wf = true) (w : World) :
    Calls Try.prog 4 #[.int .i64 n, .int .i64 k] w fun e w' => e = .returned (.bool true) ∧ Below w.heap.size w w' := by
  by_cases h : 0 ≤ n ∧ n ≤ 1099511627776 ∧ 0 ≤ k ∧ k ≤ 20
  · obtain ⟨h1, h2, h3, h4⟩ := h
    obtain ⟨v, hv⟩ : ∃ v, v = Fl.pr n.toNat k.toNat := ⟨_, rfl⟩
    have hp : Hid ((v, (0 : Int)) = if 0 ≤ n ∧ n ≤ 1099511627776 ∧ 0 ≤ k ∧ k ≤ 20 then (Fl.pr n.toNat k.toNat, (0 : Int)) else (0, 1)) := by
      rw [if_pos ⟨h1, h2, h3, h4⟩, hv]; rfl
    have hlt : v < 18446744073709551616 := by rw [hv]; exact (Fl.pr_rep (by omega)).2.2.2
    have ht := fun w => ticks_calls v k w hlt
    have e := Fl.tk_pr (n := n.toNat) (k := k.toNat) (by omega) (by omega)
    rw [← hv, Int.toNat_of_nonneg h1, Int.toNat_of_nonneg h3] at e
    rw [e] at ht
    have HT := fun w => Lib.hid (ht w)
    have ha : Hid (((v : Int) == (v : Int)) = true) := Lib.hid (beq_self_eq_true _)
    clear ht e hv hlt h1 h2 h3 h4
    go_enter Try.func4, Try.ntmps4
    go_wp2_with (first
      | (go_at_call 16; (with_reducible refine (price_calls _ _ _ _ _ hp).mono ?_); rintro e w' ⟨rfl, rfl⟩)
      | (go_at_call 17; (with_reducible refine (refPrice_calls _ _ _ _ _ hp).mono ?_); rintro e w' ⟨rfl, rfl⟩)
      | (go_at_call 18; (with_reducible refine (alike_calls _ _ _ true ha).mono ?_); rintro e w' ⟨rfl, rfl⟩)
      | (go_at_call 13; (with_reducible refine (HT _).out.mono ?_); rintro e w' ⟨rfl, n1, rfl⟩)
      | (go_at_call 15; (with_reducible refine (awake_calls _).mono ?_); rintro e w' ⟨rfl, n3, rfl⟩))
    go_ret
    exact ⟨rfl, below_drewN _ _⟩
  · have hp : Hid (((0 : Nat), (1 : Int)) = if 0 ≤ n ∧ n ≤ 1099511627776 ∧ 0 ≤ k ∧ k ≤ 20 then (Fl.pr n.toNat k.toNat, (0 : Int)) else (0, 1)) := by
      rw [if_neg h]; rfl
    have ha : Hid ((((0 : Nat) : Int) == ((0 : Nat) : Int)) = true) := Lib.hid (by decide)
    clear h
    go_enter Try.func4, Try.ntmps4
    go_wp2_with (first
      | (go_at_call 16; (with_reducible refine (price_calls _ _ _ _ _ hp).mono ?_); rintro e w' ⟨rfl, rfl⟩)
      | (go_at_call 17; (with_reducible refine (refPrice_calls _ _ _ _ _ hp).mono ?_); rintro e w' ⟨rfl, rfl⟩)
      | (go_at_call 18; (with_reducible refine (alike_calls _ _ _ true ha).mono ?_); rintro e w' ⟨rfl, rfl⟩)
      | (go_at_call 15; (with_reducible refine (awake_calls _).mono ?_); rintro e w' ⟨rfl, n3, rfl⟩))
    go_ret
    exact ⟨rfl, below_drewN _ _⟩
end Go.Proofs.Ytpdkjjhcpaoioaa
