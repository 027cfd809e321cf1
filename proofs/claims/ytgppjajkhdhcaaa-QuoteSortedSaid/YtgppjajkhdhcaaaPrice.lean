/- The contracts of Price and of the reference's Price: the same word (Fl.pr). -/
import Derived.Test.YtgppjajkhdhcaaaRefTicks
namespace Go.Proofs.Ytgppjajkhdhcaaa
open Go.RowKit
namespace Fl
def Nr (s : Bool) (U : Nat) : Nat := Ieee.double.nearest s U (-1074)
/-- The price of n ticks: its word. -/
def pr (n k : Nat) : Nat := Nr false (n * 2 ^ (W - k))
def okPr (n k : Int) : Prop := 0 ≤ n ∧ n ≤ 1099511627776 ∧ 0 ≤ k ∧ k ≤ 20
theorem ofNat_eq (n : Nat) : floatOfInt .f64 (n : Int) = Nr false (n * 2 ^ W) := by
  have h := ofInt_eq (n : Int)
  rw [Int.natAbs_natCast, decide_eq_false (by omega)] at h
  exact h
theorem pr_zero (n : Nat) : pr n 0 = floatOfInt .f64 (n : Int) := by rw [ofNat_eq]; rfl
theorem whole_bound {n j : Nat} (h : n ≤ 1099511627776) (hj : j ≤ W) : n * 2 ^ j < 2 ^ (52 + X) := by
  have h1 : n * 2 ^ j ≤ 2 ^ 40 * 2 ^ W := Nat.mul_le_mul (by omega) (Nat.pow_le_pow_right (by omega) hj)
  rw [← Nat.pow_add] at h1
  exact Nat.lt_of_le_of_lt h1 (pow_lt_bound (by omega))
theorem nr_fin {U : Nat} (s : Bool) (h : Rep U) (hb : U < 2 ^ (52 + X)) : Fin (Nr s U) ∧ ng (Nr s U) = s ∧ un (rg (Nr s U)) = U ∧ Nr s U < 18446744073709551616 := near_rep h hb
/-- Halves, and so on, as far as they are exact. -/
theorem div_exact {n j k : Nat} (h : n ≤ 1099511627776) (hj : k ≤ j) (hW : j ≤ W) (hk : k ≤ 1000) :
    floatBits .quo .f64 (Nr false (n * 2 ^ j)) (pw k) = some (Nr false (n * 2 ^ (j - k))) := by
  obtain ⟨hf, hn, hu, _⟩ := nr_fin false (rep_small (n := n) (by omega) j) (whole_bound h hW)
  have e := div_pw hf hk
  rw [hn, hu] at e
  refine e.trans ?_
  rw [show n * 2 ^ j = n * 2 ^ (j - k) * 2 ^ k from by rw [Nat.mul_assoc, ← Nat.pow_add]; congr 2; omega, nearest_scale]
  unfold Nr
  rw [show (-1074 - (k : Int) + (k : Int)) = -1074 from by omega]
theorem pr_div {n k : Nat} (h : n ≤ 1099511627776) (hk : k ≤ 20) : floatBits .quo .f64 (floatOfInt .f64 (n : Int)) (pw k) = some (pr n k) := by
  rw [ofNat_eq]
  have hW := W_eq
  exact div_exact h (by omega) (by omega) (by omega)
theorem pr_half {n j : Nat} (h : n ≤ 1099511627776) (hj : j < 20) : floatBits .quo .f64 (pr n j) 4611686018427387904 = some (pr n (j + 1)) := by
  have hW := W_eq
  have e : pw 1 = 4611686018427387904 := by decide
  rw [← e]
  have h1 := div_exact (n := n) (j := W - j) (k := 1) h (by omega) (by omega) (by omega)
  rw [show W - j - 1 = W - (j + 1) from by omega] at h1
  exact h1
theorem pr_rep {n k : Nat} (h : n ≤ 1099511627776) : Fin (pr n k) ∧ ng (pr n k) = false ∧ un (rg (pr n k)) = n * 2 ^ (W - k) ∧ pr n k < 18446744073709551616 :=
  nr_fin false (rep_small (by omega) _) (whole_bound h (by omega))
theorem not_nan_of_fin {w : Nat} (h : Fin w) : ¬ Nan w := by unfold Fin at h; unfold Nan; omega
/-- The price of n ticks has n ticks. -/
theorem tk_pr {n k : Nat} (h : n ≤ 1099511627776) (hk : k ≤ 20) : tk (pr n k) (k : Int) = ((n : Int), 0) := by
  obtain ⟨hf, hn, hu, _⟩ := pr_rep (k := k) h
  have hW := W_eq
  have hs : ¬ sr (pr n k) < 0 := fun g => by have := sr_ng g; rw [hn] at this; cases this
  unfold tk
  rw [if_neg (by omega), if_neg (not_nan_of_fin hf), if_neg (by unfold Fin at hf; omega), if_neg hs, hu, Int.toNat_natCast, Nat.mul_assoc, ← Nat.pow_add, show W - k + k = W from by omega]
  rw [if_neg ?_, Nat.mul_mod_left, if_neg (by omega), Nat.mul_div_cancel _ (Nat.two_pow_pos _)]
  rw [Nat.pow_add]
  exact Nat.not_lt.2 (Nat.mul_le_mul_right _ (by omega))
end Fl

set_option maxHeartbeats 1000000 in
theorem price_calls (n k : Int) (w : World) (v : Nat) (x : Int) (hv : Hid ((v, x) = if 0 ≤ n ∧ n ≤ 1099511627776 ∧ 0 ≤ k ∧ k ≤ 20 then (Fl.pr n.toNat k.toNat, (0 : Int)) else (0, 1))) :
    Calls Try.prog 22 #[.int .i64 n, .int .i64 k] w fun e w' => e = .returned (.tuple #[.float .f64 v, .int .i64 x]) ∧ w = w' := by
  by_cases h : 0 ≤ n ∧ n ≤ 1099511627776 ∧ 0 ≤ k ∧ k ≤ 20
  · have e := hv.out
    rw [if_pos h] at e
    injection e with e1 e2
    subst e1; subst e2
    obtain ⟨h1, h2, h3, h4⟩ := h
    clear hv
    obtain ⟨N, rfl⟩ := Int.eq_ofNat_of_zero_le h1
    rw [Int.toNat_natCast]
    have hd := Fl.pr_div (n := N) (k := k.toNat) (by omega) (by omega)
    rw [← Fl.shl_pw k h3 h4] at hd
    have hx := fun w => run_float_arith (P := Try.prog) w .quo 25 .f64 _ _ _ hd
    clear hd
    go_enter Try.func22, Try.ntmps22
    go_wp2
    go_ret2
    exact ⟨rfl, rfl⟩
  · have e := hv.out
    rw [if_neg h] at e
    injection e with e1 e2
    subst e1; subst e2
    clear hv
    have hc : (k < 0) ∨ (0 ≤ k ∧ 20 < k) ∨ (0 ≤ k ∧ k ≤ 20 ∧ n < 0) ∨ (0 ≤ k ∧ k ≤ 20 ∧ 0 ≤ n ∧ 1099511627776 < n) := by omega
    clear h
    rcases hc with h1 | ⟨h1, h2⟩ | ⟨h1, h2, h3⟩ | ⟨h1, h2, h3, h4⟩
    all_goals
      go_enter Try.func22, Try.ntmps22
      go_wp2
      go_ret2
      exact ⟨rfl, rfl⟩
theorem alike_calls (x y : Nat) (w : World) (v : Bool) (hv : Hid (((x : Int) == (y : Int)) = v)) :
    Calls Try.prog 8 #[.float .f64 x, .float .f64 y] w fun e w' => e = .returned (.bool v) ∧ w = w' := by
  have hb := fun (b : Nat) (w : World) => bits_run b w
  go_enter Try.func8, Try.ntmps8
  go_wp2
  go_ret
  exact ⟨by rw [← hv.out]; rfl, rfl⟩
end Go.Proofs.Ytgppjajkhdhcaaa
