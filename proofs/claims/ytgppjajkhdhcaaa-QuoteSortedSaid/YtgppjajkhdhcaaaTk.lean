/- What ticks are: the chapter's answer in whole numbers, and what the tests of the program and of the reference come to. -/
import Derived.Test.YtgppjajkhdhcaaaFl
import Derived.Laws.FloatArith
import Derived.Laws.Cover2
import Derived.WalkKit
namespace Go.Proofs.Ytgppjajkhdhcaaa
open Go.RowKit
namespace Fl

theorem order_self (p : Nat) : FloatKind.f64.format.order p p = if Nan p then none else some .eq := by
  show Ieee.double.order p p = _
  rw [order_eq]
  by_cases h : Nan p
  · rw [if_pos (Or.inl h), if_pos h]
  · rw [if_neg (by simp [h]), if_neg h, cmp_eq.2 rfl]
theorem neq_self (p : Nat) : (FloatKind.f64.format.order p p != some .eq) = decide (Nan p) := by
  rw [order_self]; by_cases h : Nan p <;> simp [h]
theorem order_gt (x y : Nat) : (FloatKind.f64.format.order x y == some .gt) = decide (¬ Nan x ∧ ¬ Nan y ∧ sr y < sr x) := by
  show (Ieee.double.order x y == some .gt) = _
  rw [order_eq]
  by_cases h : Nan x ∨ Nan y
  · rw [if_pos h]; symm; rw [decide_eq_false (by rintro ⟨h1, h2, _⟩; rcases h with h | h; exact h1 h; exact h2 h)]; rfl
  · rw [if_neg h, Bool.eq_iff_iff]; simp only [beq_iff_eq, Option.some.injEq, cmp_gt, decide_eq_true_eq]
    constructor
    · intro g; exact ⟨fun a => h (Or.inl a), fun a => h (Or.inr a), g⟩
    · exact fun g => g.2.2
theorem order_lt (x y : Nat) : (FloatKind.f64.format.order x y == some .lt) = decide (¬ Nan x ∧ ¬ Nan y ∧ sr x < sr y) := by
  show (Ieee.double.order x y == some .lt) = _
  rw [order_eq]
  by_cases h : Nan x ∨ Nan y
  · rw [if_pos h]; symm; rw [decide_eq_false (by rintro ⟨h1, h2, _⟩; rcases h with h | h; exact h1 h; exact h2 h)]; rfl
  · rw [if_neg h, Bool.eq_iff_iff]; simp only [beq_iff_eq, Option.some.injEq, cmp_lt, decide_eq_true_eq]
    constructor
    · intro g; exact ⟨fun a => h (Or.inl a), fun a => h (Or.inr a), g⟩
    · exact fun g => g.2.2
theorem order_ne (x y : Nat) : (FloatKind.f64.format.order x y != some .eq) = decide (Nan x ∨ Nan y ∨ sr x ≠ sr y) := by
  show (Ieee.double.order x y != some .eq) = _
  rw [order_eq]
  by_cases h : Nan x ∨ Nan y
  · rw [if_pos h]; symm; rw [decide_eq_true (by rcases h with h | h; exact Or.inl h; exact Or.inr (Or.inl h))]; rfl
  · rw [if_neg h, Bool.eq_iff_iff]; simp only [bne_iff_ne, ne_eq, Option.some.injEq, cmp_eq, decide_eq_true_eq]
    constructor
    · intro g; exact Or.inr (Or.inr g)
    · rintro (a | a | a)
      · exact absurd (Or.inl a) h
      · exact absurd (Or.inr a) h
      · exact a
theorem order_eqb (x y : Nat) : (FloatKind.f64.format.order x y == some .eq) = decide (¬ Nan x ∧ ¬ Nan y ∧ sr x = sr y) := by
  have h := order_ne x y
  have e : (FloatKind.f64.format.order x y == some .eq) = !(FloatKind.f64.format.order x y != some .eq) := by simp [bne]
  rw [e, h, ← decide_not]; congr 1
  simp only [not_or, ne_eq, Decidable.not_not]

/-- The rung of infinity; the words of the greatest number and of 2^40. -/
theorem rg_rg (p : Nat) : rg (rg p) = rg p := by unfold rg; omega
theorem ng_rg (p : Nat) : ng (rg p) = false := by
  unfold ng rg
  have : p % 9223372036854775808 / 9223372036854775808 = 0 := by omega
  rw [this]; rfl
theorem sr_rg (p : Nat) : sr (rg p) = (rg p : Int) := by unfold sr sg; rw [ng_rg, rg_rg]; rfl
theorem sr_pos {c : Nat} (h : c < 9223372036854775808) : sr c = (c : Int) := by
  have := sr_rg c; rwa [show rg c = c from by unfold rg; omega] at this
theorem rg_pos {c : Nat} (h : c < 9223372036854775808) : rg c = c := by unfold rg; omega
theorem is_inf (p : Nat) : (FloatKind.f64.format.order (rg p) 9218868437227405311 == some .gt) = decide (rg p = 9218868437227405312) := by
  rw [order_gt, sr_rg, sr_pos (c := 9218868437227405311) (by omega)]
  congr 1; apply propext
  unfold Nan; rw [rg_rg, rg_pos (c := 9218868437227405311) (by omega)]; omega
theorem sr_ng {p : Nat} (h : sr p < 0) : ng p = true := by
  unfold sr sg at h; cases hn : ng p
  · rw [hn] at h; simp at h; omega
  · rfl

/-- The chapter's ticks of a price (its word p) at 2^k to the unit: how many, and the error's number. -/
def tk (p : Nat) (k : Int) : Int × Int :=
  if k < 0 ∨ 20 < k then (0, 1)
  else if Nan p then (0, 50)
  else if rg p = 9218868437227405312 then (0, 51)
  else if sr p < 0 then (0, 52)
  else if 2 ^ (40 + W) < un (rg p) * 2 ^ k.toNat then (0, 54)
  else if un (rg p) * 2 ^ k.toNat % 2 ^ W ≠ 0 then (0, 53)
  else ((un (rg p) * 2 ^ k.toNat / 2 ^ W : Nat), 0)

theorem pw40 : pw 40 = 4787326403894837248 := by decide
theorem un_pw40 : un (rg 4787326403894837248) = 2 ^ (40 + W) := by
  have hW := W_eq
  have e : (4787326403894837248 : Nat) = (W - 12) * 4503599627370496 + 4503599627370496 := by rw [hW]
  have e2 : (4503599627370496 : Nat) * 2 ^ (W - 12) = 2 ^ 52 * 2 ^ (W - 12) := rfl
  rw [rg_pos (by omega), e, un_high (by omega) (by omega), e2, ← Nat.pow_add]
  congr 1; omega
theorem pow_lt_bound {a : Nat} (h : a ≤ 100) : 2 ^ (a + W) < 2 ^ (52 + X) := Nat.pow_lt_pow_right (by omega) (by have := W_eq; have := X_eq; omega)

/-- Is a nearest word above a bound that is one itself? -/
theorem near_gt {s : Bool} {U c : Nat} (hU : Rep U) (hs : s = true → U = 0) (hc : c < 9218868437227405312) :
    (FloatKind.f64.format.order (Ieee.double.nearest s U (-1074)) c == some .gt) = decide (un c < U) := by
  rw [order_gt]; congr 1; apply propext
  have hcap := cap_lt (ru U)
  have hc1 : ¬ Nan c := by unfold Nan; rw [rg_pos (by omega)]; omega
  have hn : ¬ Nan (Ieee.double.nearest s U (-1074)) := by
    rw [near_eq]; unfold Nan; rw [rg_word s hcap]; unfold cap; omega
  have hsr : sr (Ieee.double.nearest s U (-1074)) = (cap (ru U) : Int) := by
    rw [near_eq]; unfold sr; rw [ng_word s hcap, rg_word s hcap]
    cases s
    · rfl
    · rw [hs rfl, ru_zero]; rfl
  rw [sr_pos (by omega), hsr]
  have h1 : un c < U ↔ c < ru U := by rw [← un_lt_iff (r := c), un_ru_rep hU]
  rw [h1]
  simp only [hc1, hn, not_false_eq_true, true_and]
  unfold cap; omega

theorem shl_pw (k : Int) (h0 : 0 ≤ k) (h1 : k ≤ 20) : floatOfInt .f64 (wrap64 (2 ^ k.toNat)) = pw k.toNat := by
  have h2 : 2 ^ k.toNat ≤ 2 ^ 20 := Nat.pow_le_pow_right (by omega) (by omega)
  have e : wrap64 (2 ^ k.toNat) = ((2 ^ k.toNat : Nat) : Int) := by
    rw [show (2 : Int) ^ k.toNat = ((2 ^ k.toNat : Nat) : Int) from by simp]
    generalize 2 ^ k.toNat = a at *
    unfold wrap64; omega
  rw [e]; exact pw_eq (by omega)

/-- The product of a price and a power: finite. -/
theorem mul_k {p : Nat} (h : Fin p) (k : Int) (h0 : 0 ≤ k) (h1 : k ≤ 20) :
    floatBits .mul .f64 p (floatOfInt .f64 (wrap64 (2 ^ k.toNat))) = some (Ieee.double.nearest (ng p) (un (rg p) * 2 ^ k.toNat) (-1074)) := by
  rw [shl_pw k h0 h1]; exact mul_pw h (by omega)

theorem fin_of {p : Nat} (h1 : ¬ Nan p) (h2 : rg p ≠ 9218868437227405312) : Fin p := by
  rcases kinds p with h | h | h
  · exact h
  · exact absurd h h2
  · exact absurd h h1
theorem un_zero_of {p : Nat} (h : ¬ sr p < 0) (hn : ng p = true) : un (rg p) = 0 := by
  unfold sr sg at h; rw [hn] at h; simp at h
  have : rg p = 0 := by omega
  rw [this]; exact un_low (by omega)

/-- A nearest word that is none but itself. -/
theorem near_trunc {s : Bool} {U : Nat} (hU : Rep U) (hb : U ≤ 2 ^ (40 + W)) :
    Ieee.double.write ((Ieee.double.read (Ieee.double.nearest s U (-1074))).integral .zero) = Ieee.double.nearest s (U / 2 ^ W * 2 ^ W) (-1074) := by
  obtain ⟨hf, hn, hu, _⟩ := near_rep (s := s) hU (Nat.lt_of_le_of_lt hb (pow_lt_bound (by omega)))
  rw [integral_zero hf, write_whole, hn, hu]
theorem whole_small {U : Nat} (hb : U ≤ 2 ^ (40 + W)) : U / 2 ^ W ≤ 1099511627776 := by
  have : U / 2 ^ W ≤ 2 ^ (40 + W) / 2 ^ W := Nat.div_le_div_right hb
  rwa [Nat.pow_add, Nat.mul_div_cancel _ (Nat.two_pow_pos _)] at this
theorem rep_whole {U : Nat} (hb : U ≤ 2 ^ (40 + W)) : Rep (U / 2 ^ W * 2 ^ W) := rep_small (by have := whole_small hb; omega) W
theorem whole_le {U : Nat} (hb : U ≤ 2 ^ (40 + W)) : U / 2 ^ W * 2 ^ W < 2 ^ (52 + X) :=
  Nat.lt_of_le_of_lt (Nat.le_trans (Nat.div_mul_le_self _ _) hb) (pow_lt_bound (by omega))
theorem near_not_nan (s : Bool) (U : Nat) : ¬ Nan (Ieee.double.nearest s U (-1074)) := by
  rw [near_eq]; unfold Nan; rw [rg_word s (cap_lt _)]; unfold cap; omega
/-- Two nearest words of one sign part just as their units do. -/
theorem near_ne {s : Bool} {U V : Nat} (hU : Rep U) (hb : U < 2 ^ (52 + X)) (hV : Rep V) (hc : V < 2 ^ (52 + X)) :
    (FloatKind.f64.format.order (Ieee.double.nearest s U (-1074)) (Ieee.double.nearest s V (-1074)) != some .eq) = decide (U ≠ V) := by
  rw [order_ne]; congr 1; apply propext
  obtain ⟨_, hn, hu, _⟩ := near_rep (s := s) hU hb
  obtain ⟨_, hm, hv, _⟩ := near_rep (s := s) hV hc
  simp only [near_not_nan, false_or, ne_eq, ← sv_eq]
  rw [sv_of hn hu, sv_of hm hv]
  unfold sg; cases s <;> simp <;> omega
theorem mod_ne (U : Nat) : (U ≠ U / 2 ^ W * 2 ^ W) ↔ U % 2 ^ W ≠ 0 := by
  have h := Nat.div_add_mod U (2 ^ W)
  rw [Nat.mul_comm] at h
  generalize U / 2 ^ W * 2 ^ W = a at *
  omega
/-- The whole number of a nearest word. -/
theorem near_int {s : Bool} {U : Nat} (hU : Rep U) (hs : s = true → U = 0) (hb : U ≤ 2 ^ (40 + W)) :
    floatToIntVal .f64 (Ieee.double.nearest s U (-1074)) .i64 = some ((U / 2 ^ W : Nat) : Int) := by
  obtain ⟨hf, hn, hu, _⟩ := near_rep (s := s) hU (Nat.lt_of_le_of_lt hb (pow_lt_bound (by omega)))
  have h := toInt_fin hf
  rw [hn, hu] at h
  have e : sg s (U / 2 ^ W) = ((U / 2 ^ W : Nat) : Int) := by
    unfold sg; cases s
    · rfl
    · rw [hs rfl]; simp
  rw [e] at h
  have hw := whole_small hb
  unfold floatToIntVal
  have h' : (FloatKind.f64.decode (Ieee.double.nearest s U (-1074))).toInt .zero = some ((U / 2 ^ W : Nat) : Int) := h
  rw [h']
  generalize U / 2 ^ W = n at *
  have hmin : IntKind.i64.min = -9223372036854775808 := by decide
  have hmax : IntKind.i64.max = 9223372036854775807 := by decide
  rw [hmin, hmax]
  simp only; rw [if_pos (by omega)]
end Fl
end Go.Proofs.Ytgppjajkhdhcaaa
