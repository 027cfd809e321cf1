/- The walk of QuoteExact: a price that is taken is just the price of its ticks. -/
import Derived.Test.YtpdkjjhcpaoioaaQuotePricesW
namespace Go.Proofs.Ytpdkjjhcpaoioaa
open Go.RowKit
namespace Fl
/-- What a price that is taken is. -/
theorem tk_ok {p : Nat} {k : Int} {n : Int} (h : tk p k = (n, 0)) : 0 ≤ k ∧ k ≤ 20 ∧ 0 ≤ n ∧ n ≤ 1099511627776 ∧ Fin p ∧ ¬ sr p < 0 ∧ un (rg p) = n.toNat * 2 ^ (W - k.toNat) := by
  unfold tk at h
  split at h
  · cases h
  rename_i hk
  split at h
  · cases h
  rename_i hn
  split at h
  · cases h
  rename_i hi
  split at h
  · cases h
  rename_i hs
  split at h
  · cases h
  rename_i ho
  split at h
  · cases h
  rename_i hm
  injection h with h1 _
  have hb : un (rg p) * 2 ^ k.toNat ≤ 2 ^ (40 + W) := Nat.le_of_not_lt ho
  have hw := whole_small hb
  have hW := W_eq
  have hm0 : un (rg p) * 2 ^ k.toNat % 2 ^ W = 0 := Nat.eq_zero_of_not_pos (fun h => hm (by omega))
  have e : un (rg p) * 2 ^ k.toNat = (un (rg p) * 2 ^ k.toNat / 2 ^ W) * 2 ^ W := (Nat.div_mul_cancel (Nat.dvd_of_mod_eq_zero hm0)).symm
  have en : n.toNat = un (rg p) * 2 ^ k.toNat / 2 ^ W := by rw [← h1, Int.toNat_natCast]
  rw [← en] at e hw
  have hn0 : 0 ≤ n := by rw [← h1]; exact Int.natCast_nonneg _
  clear h1 hb ho hm hm0
  refine ⟨by omega, by omega, by omega, by omega, fin_of hn hi, hs, ?_⟩
  have e2 : n.toNat * 2 ^ W = n.toNat * 2 ^ (W - k.toNat) * 2 ^ k.toNat := by rw [Nat.mul_assoc, ← Nat.pow_add]; congr 2; omega
  rw [e2] at e
  exact Nat.eq_of_mul_eq_mul_right (Nat.two_pow_pos _) e
theorem tk_bad {p : Nat} {k : Int} (h : (tk p k).2 ≠ 0) : (tk p k).1 = 0 := by
  unfold tk at h ⊢
  repeat' split
  all_goals first | rfl | (exfalso; simp_all; done)
/-- The price of the ticks is the price, as numbers. -/
theorem exact_eq {p : Nat} {k : Int} {n : Int} (h : tk p k = (n, 0)) : (FloatKind.f64.format.order (pr n.toNat k.toNat) p == some .eq) = true := by
  obtain ⟨h1, h2, h3, h4, hf, hs, hu⟩ := tk_ok h
  obtain ⟨gf, gn, gu, _⟩ := pr_rep (n := n.toNat) (k := k.toNat) (by omega)
  rw [order_eqb]
  refine decide_eq_true ⟨not_nan_of_fin gf, not_nan_of_fin hf, ?_⟩
  rw [← sv_eq, sv_of gn gu]
  unfold sv; rw [hu]
  cases hn : ng p
  · rfl
  · have := un_zero_of hs hn
    rw [hu] at this
    rw [this]; rfl
end Fl
set_option maxHeartbeats 400000 in
theorem QuoteExact_walk (p : Nat) (hp : (Lit.float .f64 p).wf = true) (k : Int) (_hk : (Lit.int .i64 k).wf = true) (w : World) :
    Calls Try.prog 5 #[.float .f64 p, .int .i64 k] w fun e w' => e = .returned (.bool true) ∧ Below w.heap.size w w' := by
  have h1 := fun w => ticks_calls p k w (float_lt hp)
  clear hp
  by_cases h : (Fl.tk p k).2 = 0
  · obtain ⟨n, hn⟩ : ∃ n, Fl.tk p k = (n, 0) := ⟨(Fl.tk p k).1, by rw [← h]⟩
    obtain ⟨g1, g2, g3, g4, _⟩ := Fl.tk_ok hn
    have he := Fl.exact_eq hn
    rw [hn] at h1
    have H1 := fun w => Lib.hid (h1 w)
    obtain ⟨v, hv⟩ : ∃ v, v = Fl.pr n.toNat k.toNat := ⟨_, rfl⟩
    have hp : Hid ((v, (0 : Int)) = if 0 ≤ n ∧ n ≤ 1099511627776 ∧ 0 ≤ k ∧ k ≤ 20 then (Fl.pr n.toNat k.toNat, (0 : Int)) else (0, 1)) := by
      rw [if_pos ⟨g3, g4, g1, g2⟩, hv]; rfl
    rw [← hv] at he
    clear h1 h hn hv g1 g2
    go_enter Try.func5, Try.ntmps5
    go_wp2_with (first
      | (go_at_call 13; (with_reducible refine (H1 _).out.mono ?_); rintro e w' ⟨rfl, n1, rfl⟩)
      | (go_at_call 16; (with_reducible refine (price_calls _ _ _ _ _ hp).mono ?_); rintro e w' ⟨rfl, rfl⟩)
      | (go_at_call 15; (with_reducible refine (awake_calls _).mono ?_); rintro e w' ⟨rfl, n3, rfl⟩))
    go_ret
    exact ⟨rfl, below_drewN _ _⟩
  · have hz := Fl.tk_bad h
    rw [hz] at h1
    have hne : ((Fl.tk p k).2 != 0) = true := by rw [bne_iff_ne]; exact h
    generalize (Fl.tk p k).2 = z at *
    have H1 := fun w => Lib.hid (h1 w)
    clear h1 h hz
    go_enter Try.func5, Try.ntmps5
    go_wp2_with (first
      | (go_at_call 13; (with_reducible refine (H1 _).out.mono ?_); rintro e w' ⟨rfl, n1, rfl⟩)
      | (go_at_call 15; (with_reducible refine (awake_calls _).mono ?_); rintro e w' ⟨rfl, n3, rfl⟩))
    go_ret
    exact ⟨rfl, below_drewN _ _⟩
end Go.Proofs.Ytpdkjjhcpaoioaa
