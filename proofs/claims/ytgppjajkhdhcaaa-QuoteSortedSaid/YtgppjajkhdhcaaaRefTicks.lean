/- The contract of the reference's Ticks: the same answer (Fl.tk). -/
import Derived.Test.YtgppjajkhdhcaaaTicks
namespace Go.Proofs.Ytgppjajkhdhcaaa
open Go.RowKit
namespace Fl
theorem near_self {p : Nat} (h : Fin p) (hp : p < 18446744073709551616) : Ieee.double.nearest (ng p) (un (rg p)) (-1074) = p := by
  rw [near_eq, ru_un]
  unfold cap; unfold Fin at h
  rw [Nat.min_eq_left (by omega), word_ng_rg hp]
theorem add_double {s : Bool} {V : Nat} (hV : Rep V) (hb : V < 2 ^ (52 + X)) :
    floatBits .add .f64 (Ieee.double.nearest s V (-1074)) (Ieee.double.nearest s V (-1074)) = some (Ieee.double.nearest s (V * 2) (-1074)) := by
  obtain ⟨hf, hn, hu, _⟩ := near_rep (s := s) hV hb
  have h := add_fin hf hf
  rw [sv_of hn hu, hn] at h
  refine h.trans ?_
  rw [near_eq]; unfold nr
  have e1 : (sg s V + sg s V).natAbs = V * 2 := by unfold sg; cases s <;> simp <;> omega
  rw [e1]
  have e2 : (if sg s V + sg s V = 0 then s && s else decide (sg s V + sg s V < 0)) = s := by
    unfold sg; cases s <;> simp <;> omega
  rw [e2]
theorem whole_ne {s : Bool} {U : Nat} (hU : Rep U) (hs : s = true → U = 0) (hb : U ≤ 2 ^ (40 + W)) :
    (FloatKind.f64.format.order (floatOfInt .f64 ((U / 2 ^ W : Nat) : Int)) (Ieee.double.nearest s U (-1074)) != some .eq) = decide (U % 2 ^ W ≠ 0) := by
  have e : floatOfInt .f64 ((U / 2 ^ W : Nat) : Int) = Ieee.double.nearest false (U / 2 ^ W * 2 ^ W) (-1074) := by
    have h := ofInt_eq ((U / 2 ^ W : Nat) : Int)
    generalize U / 2 ^ W = n at *
    rw [Int.natAbs_natCast, decide_eq_false (by omega)] at h
    exact h
  rw [e, order_ne]; congr 1; apply propext
  obtain ⟨_, hn, hu, _⟩ := near_rep (s := s) hU (Nat.lt_of_le_of_lt hb (pow_lt_bound (by omega)))
  obtain ⟨_, hm, hv, _⟩ := near_rep (s := false) (rep_whole hb) (whole_le hb)
  simp only [near_not_nan, false_or, ne_eq, ← sv_eq]
  rw [sv_of hn hu, sv_of hm hv]
  have h := mod_ne U
  unfold sg; cases s
  · simp only [Bool.false_eq_true, if_false]; omega
  · have h0 := hs rfl
    subst h0
    simp
theorem scaled_lt {U j : Nat} (hU : U ≤ 2 ^ (40 + W)) (hj : j ≤ 20) : U * 2 ^ j < 2 ^ (52 + X) := by
  have h : U * 2 ^ j ≤ 2 ^ (40 + W) * 2 ^ 20 := Nat.mul_le_mul hU (Nat.pow_le_pow_right (by omega) hj)
  rw [← Nat.pow_add] at h
  refine Nat.lt_of_le_of_lt h ?_
  rw [show 40 + W + 20 = 60 + W from by omega]
  exact pow_lt_bound (by omega)
end Fl

theorem none_calls (p : Nat) (w : World) (v : Bool) (hv : decide (Fl.Nan p) = v) :
    Calls Try.prog 25 #[.float .f64 p] w fun e w' => e = .returned (.bool v) ∧ w = w' := by
  have h := (Fl.neq_self p).trans hv
  clear hv
  go_enter Try.func25, Try.ntmps25
  go_wp2
  go_ret
  exact ⟨rfl, rfl⟩

end Go.Proofs.Ytgppjajkhdhcaaa
