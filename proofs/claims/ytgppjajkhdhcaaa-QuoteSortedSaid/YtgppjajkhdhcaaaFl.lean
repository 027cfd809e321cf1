/- Doubles by their units: plain facts on the words of binary64 and the whole numbers of units (2^-1074) that they stand for. -/
import Derived.Laws.FloatBits
import GoSem.Core.Float
namespace Go.Proofs.Ytgppjajkhdhcaaa
namespace Fl
open Ieee

theorem fb : Ieee.double.fractionBits = 52 := rfl
theorem lp : Ieee.double.leastPlace = -1074 := by decide
theorem bn : Ieee.double.binade = 4503599627370496 := by decide
theorem ir : Ieee.double.infRung = 9218868437227405312 := by decide
theorem sw : Ieee.double.signWeight = 9223372036854775808 := by decide

/-- Rounded quotient, ties to even. -/
def rnd (n g : Nat) : Nat := n / g + (if g < 2 * (n % g) ∨ (g = 2 * (n % g) ∧ n / g % 2 = 1) then 1 else 0)

theorem log2_iff {n k : Nat} (h : n ≠ 0) : n.log2 = k ↔ 2 ^ k ≤ n ∧ n < 2 ^ (k + 1) := Nat.log2_eq_iff h

theorem log2_mul (m j : Nat) (h : m ≠ 0) : (m * 2 ^ j).log2 = m.log2 + j := by
  have hp : 0 < 2 ^ j := Nat.two_pow_pos j
  rw [log2_iff (by exact Nat.mul_ne_zero h (by omega))]
  constructor
  · rw [Nat.pow_add]; exact Nat.mul_le_mul_right _ (Nat.log2_self_le h)
  · rw [show m.log2 + j + 1 = (m.log2 + 1) + j from by omega, Nat.pow_add]
    exact Nat.mul_lt_mul_of_pos_right Nat.lt_log2_self hp

theorem rnd_scale (n g j : Nat) : rnd (n * 2 ^ j) (g * 2 ^ j) = rnd n g := by
  have hp : 0 < 2 ^ j := Nat.two_pow_pos j
  unfold rnd
  rw [Nat.mul_div_mul_right _ _ hp, Nat.mul_mod_mul_right]
  have e1 : (g * 2 ^ j < 2 * (n % g * 2 ^ j)) = (g < 2 * (n % g)) := by
    rw [← Nat.mul_assoc]; exact propext (Nat.mul_lt_mul_right hp)
  have e2 : (g * 2 ^ j = 2 * (n % g * 2 ^ j)) = (g = 2 * (n % g)) := by
    rw [← Nat.mul_assoc]; exact propext (Nat.mul_left_inj (by omega))
  simp only [e1, e2]

theorem rnd_dvd (q g : Nat) (h : 0 < g) : rnd (q * g) g = q := by
  unfold rnd
  rw [Nat.mul_div_cancel _ h, Nat.mul_mod_left]
  rw [if_neg (by omega)]; rfl

theorem rnd_one (n : Nat) : rnd n 1 = n := by
  have := rnd_dvd n 1 (by omega); rwa [Nat.mul_one] at this

theorem cut_even (s : Bool) (n d : Nat) : Toward.even.cut s n d = rnd n (2 ^ min d (n.log2 + 2)) := by
  unfold Toward.cut rnd
  simp only [Nat.one_shiftLeft]
  generalize 2 ^ min d (n.log2 + 2) = g
  congr 1
  by_cases h1 : g < 2 * (n % g)
  · simp [h1]
  · by_cases h2 : g = 2 * (n % g) ∧ n / g % 2 = 1
    · rw [if_pos (Or.inr h2)]
      have : (g == 2 * (n % g)) = true := beq_iff_eq.2 h2.1
      simp [this, h2.2]
    · rw [if_neg (by rintro (h | h); exact h1 h; exact h2 h)]
      by_cases h3 : g = 2 * (n % g)
      · have : ¬ n / g % 2 = 1 := fun h => h2 ⟨h3, h⟩
        simp [h1, this]
      · have : (g == 2 * (n % g)) = false := beq_eq_false_iff_ne.2 h3
        simp [h1, this]

/-- What 'nearest' comes to, written plainly. -/
theorem nearest_eq (s : Bool) (m : Nat) (p : Int) (h : m ≠ 0) : Ieee.double.nearest s m p =
    Ieee.double.word s (min ((max (p + m.log2 - 52) (-1074) + 1074).toNat * 4503599627370496 +
      rnd (m * 2 ^ (p - max (p + m.log2 - 52) (-1074)).toNat) (2 ^ min (max (p + m.log2 - 52) (-1074) - p).toNat ((m * 2 ^ (p - max (p + m.log2 - 52) (-1074)).toNat).log2 + 2))) 9218868437227405312) := by
  unfold Ieee.Format.nearest
  rw [if_neg h, fb, lp, bn, ir]
  simp only [cut_even, Nat.shiftLeft_eq, Int.sub_neg]
  rfl

theorem nearest_zero (s : Bool) (p : Int) : Ieee.double.nearest s 0 p = Ieee.double.word s 0 := by
  unfold Ieee.Format.nearest; rw [if_pos rfl]

theorem nearest_scale (s : Bool) (m j : Nat) (p : Int) : Ieee.double.nearest s (m * 2 ^ j) p = Ieee.double.nearest s m (p + j) := by
  by_cases hm : m = 0
  · subst hm; rw [Nat.zero_mul, nearest_zero, nearest_zero]
  have hp : 0 < 2 ^ j := Nat.two_pow_pos j
  rw [nearest_eq s m _ hm, nearest_eq s (m * 2 ^ j) p (Nat.mul_ne_zero hm (by omega)), log2_mul m j hm]
  have el : max (p + ((m.log2 + j : Nat) : Int) - 52) (-1074) = max (p + (j : Int) + (m.log2 : Int) - 52) (-1074) := by
    congr 1; omega
  rw [el]
  generalize hL : max (p + (j : Int) + (m.log2 : Int) - 52) (-1074) = L
  have hL1 : p + (j : Int) + (m.log2 : Int) - 52 ≤ L := by omega
  congr 2
  congr 1
  by_cases h1 : L ≤ p
  · have e1 : (L - p).toNat = 0 := by omega
    have e2 : (L - (p + j)).toNat = 0 := by omega
    have e3 : (p + j - L).toNat = j + (p - L).toNat := by omega
    rw [e1, e2, e3, Nat.zero_min, Nat.zero_min, Nat.pow_zero, rnd_one, rnd_one, Nat.mul_assoc, ← Nat.pow_add]
  · have e0 : (p - L).toNat = 0 := by omega
    rw [e0, Nat.pow_zero, Nat.mul_one]
    by_cases h2 : L ≤ p + j
    · have e1 : (L - (p + j)).toNat = 0 := by omega
      rw [e1, Nat.zero_min, Nat.pow_zero, rnd_one, log2_mul m j hm]
      have e2 : min (L - p).toNat (m.log2 + j + 2) = (L - p).toNat := by omega
      rw [e2]
      have e3 : j = (p + j - L).toNat + (L - p).toNat := by omega
      have e4 : m * 2 ^ j = (m * 2 ^ (p + j - L).toNat) * 2 ^ (L - p).toNat := by
        rw [Nat.mul_assoc, ← Nat.pow_add, ← e3]
      rw [e4, rnd_dvd _ _ (Nat.two_pow_pos _)]
    · have e1 : (p + j - L).toNat = 0 := by omega
      rw [e1, Nat.pow_zero, Nat.mul_one, log2_mul m j hm]
      have e2 : min (L - p).toNat (m.log2 + j + 2) = min (L - (p + j)).toNat (m.log2 + 2) + j := by omega
      rw [e2, Nat.pow_add, rnd_scale]

/-- The rung nearest to so many units. -/
def ru (U : Nat) : Nat := (U.log2 - 52) * 4503599627370496 + rnd U (2 ^ (U.log2 - 52))

theorem ru_zero : ru 0 = 0 := by decide

theorem nearest_units (s : Bool) (U : Nat) : Ieee.double.nearest s U (-1074) = Ieee.double.word s (min (ru U) 9218868437227405312) := by
  by_cases h : U = 0
  · subst h; rw [nearest_zero, ru_zero]; rfl
  rw [nearest_eq s U _ h]
  unfold ru
  have e1 : max ((-1074 : Int) + (U.log2 : Int) - 52) (-1074) = -1074 + ((U.log2 - 52 : Nat) : Int) := by omega
  rw [e1]
  have e2 : (-1074 + ((U.log2 - 52 : Nat) : Int) + 1074).toNat = U.log2 - 52 := by omega
  have e3 : (-1074 - (-1074 + ((U.log2 - 52 : Nat) : Int))).toNat = 0 := by omega
  have e4 : (-1074 + ((U.log2 - 52 : Nat) : Int) - -1074).toNat = U.log2 - 52 := by omega
  rw [e2, e3, e4, Nat.pow_zero, Nat.mul_one, Nat.min_eq_left (by omega : U.log2 - 52 ≤ U.log2 + 2)]

/-- How many units a rung has. -/
def un (r : Nat) : Nat := if r < 4503599627370496 then r else (4503599627370496 + r % 4503599627370496) * 2 ^ (r / 4503599627370496 - 1)

theorem un_low {r : Nat} (h : r < 4503599627370496) : un r = r := if_pos h
theorem un_high {k d : Nat} (h1 : 4503599627370496 ≤ k) (h2 : k ≤ 9007199254740992) : un (d * 4503599627370496 + k) = k * 2 ^ d := by
  unfold un
  rw [if_neg (by omega)]
  by_cases h : k = 9007199254740992
  · subst h
    have e1 : (d * 4503599627370496 + 9007199254740992) % 4503599627370496 = 0 := by omega
    have e2 : (d * 4503599627370496 + 9007199254740992) / 4503599627370496 - 1 = d + 1 := by omega
    rw [e1, e2, Nat.pow_succ]; omega
  · have e1 : (d * 4503599627370496 + k) % 4503599627370496 = k - 4503599627370496 := by omega
    have e2 : (d * 4503599627370496 + k) / 4503599627370496 - 1 = d := by omega
    rw [e1, e2, show 4503599627370496 + (k - 4503599627370496) = k from by omega]

theorem rung_form (r : Nat) : r < 4503599627370496 ∨ ∃ d k, 4503599627370496 ≤ k ∧ k < 9007199254740992 ∧ r = d * 4503599627370496 + k := by
  by_cases h : r < 4503599627370496
  · exact .inl h
  · exact .inr ⟨r / 4503599627370496 - 1, 4503599627370496 + r % 4503599627370496, by omega, by omega, by omega⟩

theorem un_succ (r : Nat) : un r < un (r + 1) := by
  rcases rung_form r with h | ⟨d, k, h1, h2, rfl⟩
  · rw [un_low h]
    by_cases h' : r + 1 < 4503599627370496
    · rw [un_low h']; omega
    · have : r + 1 = 0 * 4503599627370496 + 4503599627370496 := by omega
      rw [this, un_high (by omega) (by omega)]; omega
  · rw [un_high h1 (by omega), Nat.add_assoc, un_high (by omega) (by omega)]
    exact Nat.mul_lt_mul_of_pos_right (by omega) (Nat.two_pow_pos d)

theorem un_lt {r t : Nat} (h : r < t) : un r < un t := by
  induction t with
  | zero => omega
  | succ t ih =>
    rcases Nat.lt_succ_iff_lt_or_eq.1 h with h | rfl
    · exact Nat.lt_trans (ih h) (un_succ t)
    · exact un_succ _
theorem un_le {r t : Nat} (h : r ≤ t) : un r ≤ un t := by
  rcases Nat.lt_or_eq_of_le h with h | rfl
  · exact Nat.le_of_lt (un_lt h)
  · exact Nat.le_refl _
theorem un_lt_iff {r t : Nat} : un r < un t ↔ r < t := ⟨fun h => by
  rcases Nat.lt_or_ge r t with g | g
  · exact g
  · have := un_le g; omega, un_lt⟩
theorem un_le_iff {r t : Nat} : un r ≤ un t ↔ r ≤ t := ⟨fun h => by
  rcases Nat.lt_or_ge t r with g | g
  · have := un_lt g; omega
  · exact g, un_le⟩
theorem un_inj {r t : Nat} (h : un r = un t) : r = t := by
  have h1 := un_le_iff.1 (Nat.le_of_eq h); have h2 := un_le_iff.1 (Nat.le_of_eq h.symm); omega

theorem log2_low {U : Nat} (h : U < 9007199254740992) : U.log2 - 52 = 0 := by
  by_cases h0 : U = 0
  · subst h0; rfl
  · have : U.log2 < 53 := (Nat.log2_lt h0).2 (by omega)
    omega

theorem ru_low {U : Nat} (h : U < 9007199254740992) : ru U = U := by
  unfold ru; rw [log2_low h, Nat.pow_zero, rnd_one]; omega

theorem ru_exact {k d : Nat} (h1 : 4503599627370496 ≤ k) (h2 : k < 9007199254740992) : ru (k * 2 ^ d) = d * 4503599627370496 + k := by
  unfold ru
  have hl : k.log2 = 52 := (log2_iff (by omega)).2 ⟨by omega, by omega⟩
  rw [log2_mul k d (by omega), hl, show 52 + d - 52 = d from by omega, rnd_dvd _ _ (Nat.two_pow_pos d)]

theorem ru_un (r : Nat) : ru (un r) = r := by
  rcases rung_form r with h | ⟨d, k, h1, h2, rfl⟩
  · rw [un_low h, ru_low (by omega)]
  · rw [un_high h1 (by omega), ru_exact h1 h2]

theorem rnd_mono {a b g : Nat} (h : a ≤ b) : rnd a g ≤ rnd b g := by
  have hq : a / g ≤ b / g := Nat.div_le_div_right h
  have ha := Nat.div_add_mod a g; have hb := Nat.div_add_mod b g
  unfold rnd
  rcases Nat.lt_or_eq_of_le hq with hlt | heq
  · split <;> split <;> omega
  · rw [heq] at ha ⊢
    have hr : a % g ≤ b % g := by omega
    split
    · rename_i h1
      split
      · exact Nat.le_refl _
      · rename_i h2
        exfalso; apply h2
        rcases h1 with h1 | ⟨h1, h3⟩
        · left; omega
        · rcases Nat.lt_or_eq_of_le hr with h4 | h4
          · left; omega
          · right; exact ⟨by omega, h3⟩
    · omega

theorem high_form {U : Nat} (h : 4503599627370496 ≤ U) : 4503599627370496 ≤ U / 2 ^ (U.log2 - 52) ∧ U / 2 ^ (U.log2 - 52) < 9007199254740992 := by
  have h0 : U ≠ 0 := by omega
  have hl : 52 ≤ U.log2 := (Nat.le_log2 h0).2 (by omega)
  have h1 := Nat.log2_self_le h0
  have h2 : U < 2 ^ (U.log2 + 1) := Nat.lt_log2_self
  have hp : 0 < 2 ^ (U.log2 - 52) := Nat.two_pow_pos _
  constructor
  · rw [Nat.le_div_iff_mul_le hp]
    calc 4503599627370496 * 2 ^ (U.log2 - 52) = 2 ^ 52 * 2 ^ (U.log2 - 52) := rfl
      _ = 2 ^ U.log2 := by rw [← Nat.pow_add]; congr 1; omega
      _ ≤ U := h1
  · rw [Nat.div_lt_iff_lt_mul hp]
    calc U < 2 ^ (U.log2 + 1) := h2
      _ = 2 ^ 53 * 2 ^ (U.log2 - 52) := by rw [← Nat.pow_add]; congr 1; omega
      _ = 9007199254740992 * 2 ^ (U.log2 - 52) := rfl

theorem rnd_range {n g : Nat} : n / g ≤ rnd n g ∧ rnd n g ≤ n / g + 1 := by
  unfold rnd; split <;> omega

/-- The units of the rung that is nearest. -/
theorem un_ru (U : Nat) : un (ru U) = rnd U (2 ^ (U.log2 - 52)) * 2 ^ (U.log2 - 52) := by
  by_cases h : U < 4503599627370496
  · rw [ru_low (by omega), un_low h, log2_low (by omega), Nat.pow_zero, rnd_one]; omega
  · have hf := high_form (U := U) (by omega)
    have hr := rnd_range (n := U) (g := 2 ^ (U.log2 - 52))
    unfold ru
    rw [un_high (by omega) (by omega)]

theorem ru_mono {U V : Nat} (h : U ≤ V) : ru U ≤ ru V := by
  by_cases h0 : U = 0
  · subst h0; rw [ru_zero]; omega
  have hl : U.log2 ≤ V.log2 := (Nat.le_log2 (by omega)).2 (Nat.le_trans (Nat.log2_self_le h0) h)
  by_cases hs : U < 4503599627370496
  · rw [ru_low (by omega)]
    by_cases hv : V < 9007199254740992
    · rw [ru_low hv]; exact h
    · have hf := high_form (U := V) (by omega)
      have hr := rnd_range (n := V) (g := 2 ^ (V.log2 - 52))
      unfold ru; omega
  by_cases he : U.log2 - 52 = V.log2 - 52
  · unfold ru; rw [he]; have := rnd_mono (g := 2 ^ (V.log2 - 52)) h; omega
  · have hf := high_form (U := U) (by omega)
    have _hg := high_form (U := V) (by omega)
    have hr := rnd_range (n := U) (g := 2 ^ (U.log2 - 52))
    have hq := rnd_range (n := V) (g := 2 ^ (V.log2 - 52))
    unfold ru; omega
theorem cmp_congr {a b c d : Int} (h1 : a < b ↔ c < d) (h2 : a = b ↔ c = d) : compare a b = compare c d := by
  show compareOfLessAndEq a b = compareOfLessAndEq c d
  unfold compareOfLessAndEq; simp only [h1, h2]
theorem cmp_lt {a b : Int} : compare a b = .lt ↔ a < b := by
  show compareOfLessAndEq a b = .lt ↔ _
  unfold compareOfLessAndEq
  by_cases h1 : a < b
  · rw [if_pos h1]; simp [h1]
  · rw [if_neg h1]; by_cases h2 : a = b
    · rw [if_pos h2]; simp [h1]
    · rw [if_neg h2]; simp [h1]
theorem cmp_eq {a b : Int} : compare a b = .eq ↔ a = b := by
  show compareOfLessAndEq a b = .eq ↔ _
  unfold compareOfLessAndEq
  by_cases h1 : a < b
  · rw [if_pos h1]; simp; omega
  · rw [if_neg h1]; by_cases h2 : a = b
    · rw [if_pos h2]; simp [h2]
    · rw [if_neg h2]; simp [h2]
theorem cmp_gt {a b : Int} : compare a b = .gt ↔ b < a := by
  show compareOfLessAndEq a b = .gt ↔ _
  unfold compareOfLessAndEq
  by_cases h1 : a < b
  · rw [if_pos h1]; simp; omega
  · rw [if_neg h1]; by_cases h2 : a = b
    · rw [if_pos h2]; simp; omega
    · rw [if_neg h2]; simp; omega

/-- The sign of a word; its rung; a number; no number. -/
def ng (w : Nat) : Bool := w / 9223372036854775808 % 2 == 1
def rg (w : Nat) : Nat := w % 9223372036854775808
def Fin (w : Nat) : Prop := rg w < 9218868437227405312
def Nan (w : Nat) : Prop := 9218868437227405312 < rg w
instance (w : Nat) : Decidable (Fin w) := inferInstanceAs (Decidable (_ < _))
instance (w : Nat) : Decidable (Nan w) := inferInstanceAs (Decidable (_ < _))
/-- The units of a word, and its rung, with its sign. -/
def sg (s : Bool) (n : Nat) : Int := if s then -(n : Int) else n
def sv (w : Nat) : Int := sg (ng w) (un (rg w))
def sr (w : Nat) : Int := sg (ng w) (rg w)

theorem sg_lt {s t : Bool} {a b : Nat} : sg s (un a) < sg t (un b) ↔ sg s a < sg t b := by
  have h0 : un 0 = 0 := un_low (by omega)
  have h1 : un a < un b ↔ a < b := un_lt_iff
  have h2 : un b < un a ↔ b < a := un_lt_iff
  have h3 : 0 < un a ↔ 0 < a := by have := un_lt_iff (r := 0) (t := a); rwa [h0] at this
  have h4 : 0 < un b ↔ 0 < b := by have := un_lt_iff (r := 0) (t := b); rwa [h0] at this
  unfold sg; cases s <;> cases t <;> simp only [Bool.false_eq_true, if_true, if_false] <;> omega
theorem sg_eq {s t : Bool} {a b : Nat} : sg s (un a) = sg t (un b) ↔ sg s a = sg t b := by
  have h0 : un 0 = 0 := un_low (by omega)
  have h1 : un a < un b ↔ a < b := un_lt_iff
  have h2 : un b < un a ↔ b < a := un_lt_iff
  have h3 : 0 < un a ↔ 0 < a := by have := un_lt_iff (r := 0) (t := a); rwa [h0] at this
  have h4 : 0 < un b ↔ 0 < b := by have := un_lt_iff (r := 0) (t := b); rwa [h0] at this
  unfold sg; cases s <;> cases t <;> simp only [Bool.false_eq_true, if_true, if_false] <;> omega
theorem sv_lt {x y : Nat} : sv x < sv y ↔ sr x < sr y := sg_lt
theorem sv_eq {x y : Nat} : sv x = sv y ↔ sr x = sr y := sg_eq

theorem ng_word (s : Bool) {r : Nat} (h : r < 9223372036854775808) : ng (Ieee.double.word s r) = s := by
  unfold ng Ieee.Format.word; rw [sw]; cases s
  · simp only [Bool.false_eq_true, if_false]; rw [Nat.div_eq_of_lt h]; rfl
  · simp only [if_true]
    have : (9223372036854775808 + r) / 9223372036854775808 = 1 := by omega
    rw [this]; rfl
theorem rg_word (s : Bool) {r : Nat} (h : r < 9223372036854775808) : rg (Ieee.double.word s r) = r := by
  unfold rg Ieee.Format.word; rw [sw]; cases s
  · simp only [Bool.false_eq_true, if_false]; omega
  · simp only [if_true]; omega
theorem word_lt (s : Bool) {r : Nat} (h : r < 9223372036854775808) : Ieee.double.word s r < 18446744073709551616 := by
  unfold Ieee.Format.word; rw [sw]; cases s <;> simp only [Bool.false_eq_true, if_true, if_false] <;> omega
theorem word_ng_rg {w : Nat} (h : w < 18446744073709551616) : Ieee.double.word (ng w) (rg w) = w := by
  unfold ng rg Ieee.Format.word; rw [sw]
  by_cases h1 : w / 9223372036854775808 % 2 = 1
  · rw [beq_iff_eq.2 h1]; simp only [if_true]; omega
  · rw [beq_eq_false_iff_ne.2 h1]; simp only [Bool.false_eq_true, if_false]; omega
theorem eq_of_parts {x y : Nat} (hx : x < 18446744073709551616) (hy : y < 18446744073709551616) (h1 : ng x = ng y) (h2 : rg x = rg y) : x = y := by
  rw [← word_ng_rg hx, ← word_ng_rg hy, h1, h2]

theorem rg_lt (w : Nat) : rg w < 9223372036854775808 := Nat.mod_lt _ (by omega)

theorem read_eq (w : Nat) : Ieee.double.read w = if rg w < 4503599627370496 then .number (ng w) (rg w) (-1074)
    else if rg w < 9218868437227405312 then .number (ng w) (4503599627370496 + rg w % 4503599627370496) (-1074 + (rg w / 4503599627370496 - 1 : Nat))
    else if rg w = 9218868437227405312 then .infinity (ng w) else .nan (ng w) (rg w - 9218868437227405312) := by
  unfold Ieee.Format.read; rw [sw, bn, ir, lp]; rfl

theorem read_fin {w : Nat} (h : Fin w) : ∃ m i, Ieee.double.read w = .number (ng w) m i ∧ -1074 ≤ i ∧ m * 2 ^ (i + 1074).toNat = un (rg w) ∧ m < 9007199254740992 := by
  rw [read_eq]
  by_cases h1 : rg w < 4503599627370496
  · rw [if_pos h1]
    refine ⟨_, _, rfl, by omega, ?_, by omega⟩
    rw [un_low h1, show ((-1074 : Int) + 1074).toNat = 0 from rfl]; omega
  · rw [if_neg h1, if_pos (show rg w < 9218868437227405312 from h)]
    refine ⟨_, _, rfl, by omega, ?_, by omega⟩
    unfold un; rw [if_neg h1]
    congr 2; omega
theorem read_inf {w : Nat} (h : rg w = 9218868437227405312) : Ieee.double.read w = .infinity (ng w) := by
  rw [read_eq, if_neg (by omega), if_neg (by omega), if_pos h]
theorem read_nan {w : Nat} (h : Nan w) : Ieee.double.read w = .nan (ng w) (rg w - 9218868437227405312) := by
  unfold Nan at h
  rw [read_eq, if_neg (by omega), if_neg (by omega), if_neg (by omega)]
theorem kinds (w : Nat) : Fin w ∨ rg w = 9218868437227405312 ∨ Nan w := by unfold Fin Nan; omega

theorem signed_eq (s : Bool) (m k : Nat) : Ieee.signed s m k = sg s (m * 2 ^ k) := by
  unfold Ieee.signed sg; rw [Nat.shiftLeft_eq]
theorem sg_scale (s : Bool) (m k : Nat) : sg s (m * 2 ^ k) = sg s m * ((2 ^ k : Nat) : Int) := by
  unfold sg; split
  · rw [Int.natCast_mul, Int.neg_mul]
  · rw [Int.natCast_mul]

/-- What a number's magnitude is above a place that is no higher than its own. -/
theorem sv_at {w m : Nat} {i b : Int} (h : m * 2 ^ (i + 1074).toNat = un (rg w)) (hb : b ≤ i) (hb2 : -1074 ≤ b) :
    sv w = Ieee.signed (ng w) m (i - b).toNat * ((2 ^ (b + 1074).toNat : Nat) : Int) := by
  rw [signed_eq, ← sg_scale, Nat.mul_assoc, ← Nat.pow_add]
  unfold sv; rw [← h]; congr 3; omega

theorem order_eq (x y : Nat) : Ieee.double.order x y = if Nan x ∨ Nan y then none else some (compare (sr x) (sr y)) := by
  unfold Ieee.Format.order
  rcases kinds x with hx | hx | hx
  · obtain ⟨m, i, rx, hi, hm, _⟩ := read_fin hx
    have nx : ¬ Nan x := by unfold Fin at hx; unfold Nan; omega
    rcases kinds y with hy | hy | hy
    · obtain ⟨n, j, ry, hj, hn, _⟩ := read_fin hy
      have ny : ¬ Nan y := by unfold Fin at hy; unfold Nan; omega
      rw [rx, ry, if_neg (by simp [nx, ny])]
      simp only [Ieee.Datum.order]
      congr 1
      have e1 := sv_at (b := min i j) hm (by omega) (by omega)
      have e2 := sv_at (b := min i j) hn (by omega) (by omega)
      have hp : (0 : Int) < ((2 ^ (min i j + 1074).toNat : Nat) : Int) := by have := Nat.two_pow_pos (min i j + 1074).toNat; omega
      refine cmp_congr ?_ ?_
      · rw [← sv_lt, e1, e2]; exact ⟨fun h => Int.mul_lt_mul_of_pos_right h hp, fun h => Int.lt_of_mul_lt_mul_right h (Int.le_of_lt hp)⟩
      · rw [← sv_eq, e1, e2]; exact ⟨fun h => by rw [h], fun h => Int.eq_of_mul_eq_mul_right (by omega) h⟩
    · rw [rx, read_inf hy, if_neg (by unfold Nan at nx ⊢; omega)]
      simp only [Ieee.Datum.order]
      congr 1
      unfold Fin at hx
      unfold sr sg
      cases ng y <;> cases ng x <;> simp only [Bool.false_eq_true, if_true, if_false] <;> symm <;> first | (rw [cmp_lt]; omega) | (rw [cmp_gt]; omega)
    · rw [rx, read_nan hy, if_pos (Or.inr hy)]; rfl
  · have nx : ¬ Nan x := by unfold Nan; omega
    rcases kinds y with hy | hy | hy
    · obtain ⟨n, j, ry, hj, hn, _⟩ := read_fin hy
      rw [ry, read_inf hx, if_neg (by unfold Fin at hy; unfold Nan at nx ⊢; omega)]
      simp only [Ieee.Datum.order]
      congr 1
      unfold Fin at hy
      unfold sr sg
      cases ng y <;> cases ng x <;> simp only [Bool.false_eq_true, if_true, if_false] <;> symm <;> first | (rw [cmp_lt]; omega) | (rw [cmp_gt]; omega)
    · rw [read_inf hx, read_inf hy, if_neg (by unfold Nan; omega)]
      simp only [Ieee.Datum.order]
      congr 1
      unfold sr sg; rw [hx, hy]
      cases ng y <;> cases ng x <;> rfl
    · rw [read_inf hx, read_nan hy, if_pos (Or.inr hy)]; rfl
  · rw [read_nan hx, if_pos (Or.inl hx)]; rfl

/-- Overflow goes to infinity. -/
def cap (r : Nat) : Nat := min r 9218868437227405312
theorem cap_lt (r : Nat) : cap r < 9223372036854775808 := by unfold cap; omega
theorem near_eq (s : Bool) (U : Nat) : Ieee.double.nearest s U (-1074) = Ieee.double.word s (cap (ru U)) := nearest_units s U

/-- The word of so many units; of 0 with the sign z. -/
def nr (T : Int) (z : Bool) : Nat := Ieee.double.word (if T = 0 then z else decide (T < 0)) (cap (ru T.natAbs))

theorem total_word {s t : Bool} {m n : Nat} {i j T : Int} (z : Bool) (_hi : -1074 ≤ i) (_hj : -1074 ≤ j)
    (hT : T = (Ieee.signed s m (i - min i j).toNat + Ieee.signed t n (j - min i j).toNat) * ((2 ^ (min i j + 1074).toNat : Nat) : Int)) :
    Ieee.double.nearest (if Ieee.signed s m (i - min i j).toNat + Ieee.signed t n (j - min i j).toNat = 0 then z else decide (Ieee.signed s m (i - min i j).toNat + Ieee.signed t n (j - min i j).toNat < 0))
      (Ieee.signed s m (i - min i j).toNat + Ieee.signed t n (j - min i j).toNat).natAbs (min i j) = nr T z := by
  generalize Ieee.signed s m (i - min i j).toNat + Ieee.signed t n (j - min i j).toNat = S at *
  have hp : (0 : Int) < ((2 ^ (min i j + 1074).toNat : Nat) : Int) := by have := Nat.two_pow_pos (min i j + 1074).toNat; omega
  have e1 : T.natAbs = S.natAbs * 2 ^ (min i j + 1074).toNat := by rw [hT, Int.natAbs_mul]; simp
  have e2 : (T = 0) = (S = 0) := by
    apply propext; constructor
    · intro h; rw [hT] at h; rcases Int.mul_eq_zero.1 h with h | h
      · exact h
      · omega
    · intro h; rw [hT, h, Int.zero_mul]
  have e3 : (T < 0) = (S < 0) := by
    apply propext; constructor
    · intro h; by_cases g : S < 0
      · exact g
      · exfalso; replace g : 0 ≤ S := by omega
        have := Int.mul_nonneg g (Int.le_of_lt hp); omega
    · intro h; rw [hT]; exact Int.mul_neg_of_neg_of_pos h hp
  unfold nr
  simp only [e1, e2, e3]
  rw [← near_eq, nearest_scale]
  congr 1; omega

theorem add_fin {x y : Nat} (hx : Fin x) (hy : Fin y) : Ieee.double.add x y = some (nr (sv x + sv y) (ng x && ng y)) := by
  obtain ⟨m, i, rx, hi, hm, _⟩ := read_fin hx
  obtain ⟨n, j, ry, hj, hn, _⟩ := read_fin hy
  unfold Ieee.Format.add
  rw [rx, ry]
  simp only [Ieee.Datum.sum, Option.map_some, Ieee.Format.write]
  congr 1
  refine total_word (ng x && ng y) hi hj ?_
  rw [sv_at (b := min i j) hm (by omega) (by omega), sv_at (b := min i j) hn (by omega) (by omega), Int.add_mul]

theorem signed_not (s : Bool) (m k : Nat) : Ieee.signed (!s) m k = -Ieee.signed s m k := by
  rw [signed_eq, signed_eq]; unfold sg; cases s <;> simp
theorem sub_fin {x y : Nat} (hx : Fin x) (hy : Fin y) : Ieee.double.sub x y = some (nr (sv x - sv y) (ng x && !ng y)) := by
  obtain ⟨m, i, rx, hi, hm, _⟩ := read_fin hx
  obtain ⟨n, j, ry, hj, hn, _⟩ := read_fin hy
  unfold Ieee.Format.sub
  rw [rx, ry]
  simp only [Ieee.Datum.opposite, Ieee.Datum.sum, Option.map_some, Ieee.Format.write]
  congr 1
  refine total_word (ng x && !ng y) hi hj ?_
  rw [sv_at (b := min i j) hm (by omega) (by omega), sv_at (b := min i j) hn (by omega) (by omega), signed_not, ← Int.sub_eq_add_neg, Int.sub_mul]

/-- The power 2^k as a word. -/
def pw (k : Nat) : Nat := (1023 + k) * 4503599627370496
theorem read_pw {k : Nat} (h : k ≤ 1000) : Ieee.double.read (pw k) = .number false 4503599627370496 ((k : Int) - 52) := by
  have e : rg (pw k) = (1023 + k) * 4503599627370496 := by unfold rg pw; omega
  have n : ng (pw k) = false := by
    unfold ng pw
    have : (1023 + k) * 4503599627370496 / 9223372036854775808 = 0 := by omega
    rw [this]; rfl
  rw [read_eq, e, n, if_neg (by omega), if_pos (by omega)]
  have e1 : (1023 + k) * 4503599627370496 % 4503599627370496 = 0 := by omega
  have e2 : (1023 + k) * 4503599627370496 / 4503599627370496 = 1023 + k := by omega
  rw [e1, e2]
  have e3 : (-1074 : Int) + ((1023 + k - 1 : Nat) : Int) = (k : Int) - 52 := by omega
  rw [e3]

theorem mul_pw {x k : Nat} (hx : Fin x) (hk : k ≤ 1000) : Ieee.double.mul x (pw k) = some (Ieee.double.nearest (ng x) (un (rg x) * 2 ^ k) (-1074)) := by
  obtain ⟨m, i, rx, hi, hm, _⟩ := read_fin hx
  unfold Ieee.Format.mul
  rw [rx, read_pw hk]
  simp only [Ieee.Datum.product, Option.map_some, Ieee.Format.write, Bool.xor_false]
  congr 1
  rw [← hm, Nat.mul_assoc, ← Nat.pow_add, nearest_scale]
  have : m * 4503599627370496 = m * 2 ^ 52 := rfl
  rw [this, nearest_scale]
  congr 1; omega

theorem quot_mag (m : Nat) (hm2 : m < 9007199254740992) : ∃ c, 52 + 2 + (4503599627370496 : Nat).log2 - m.log2 = c + 52 ∧
    2 * ((m <<< (52 + 2 + (4503599627370496 : Nat).log2 - m.log2)) / 4503599627370496) + ((m <<< (52 + 2 + (4503599627370496 : Nat).log2 - m.log2)) % 4503599627370496 != 0).toNat = m * 2 ^ (c + 1) := by
  have hl : (4503599627370496 : Nat).log2 = 52 := (log2_iff (by omega)).2 ⟨by omega, by omega⟩
  have hml : m.log2 < 53 := by
    by_cases h0 : m = 0
    · subst h0; decide
    · exact (Nat.log2_lt h0).2 (by omega)
  obtain ⟨c, hc⟩ : ∃ c, 52 + 2 + 52 - m.log2 = c + 52 := ⟨52 + 2 + 52 - m.log2 - 52, by omega⟩
  refine ⟨c, by rw [hl, hc], ?_⟩
  rw [hl, hc, Nat.shiftLeft_eq]
  have e1 : m * 2 ^ (c + 52) = m * 2 ^ c * 4503599627370496 := by rw [Nat.pow_add, ← Nat.mul_assoc]
  rw [e1, Nat.mul_div_cancel _ (by omega), Nat.mul_mod_left]
  have e2 : ((0 : Nat) != 0) = false := rfl
  rw [e2, Bool.toNat_false, Nat.add_zero, Nat.pow_succ, Nat.mul_comm 2, Nat.mul_assoc]

theorem quot_pw (s : Bool) (m : Nat) (i : Int) (k : Nat) (hm2 : m < 9007199254740992) : (Ieee.Datum.quotient 54 (.number s m i) (.number false 4503599627370496 ((k : Int) - 52))).map Ieee.double.write =
    some (Ieee.double.nearest s m (i - k)) := by
  obtain ⟨c, hc, he⟩ := quot_mag m hm2
  simp only [Ieee.Datum.quotient, Bool.xor_false]
  rw [if_neg (by omega)]
  simp only [Option.map_some, Ieee.Format.write]
  congr 1
  rw [he, hc, nearest_scale]
  congr 1; omega

theorem div_pw {x k : Nat} (hx : Fin x) (hk : k ≤ 1000) : Ieee.double.div x (pw k) = some (Ieee.double.nearest (ng x) (un (rg x)) (-1074 - k)) := by
  obtain ⟨m, i, rx, hi, hm, hm2⟩ := read_fin hx
  have h := quot_pw (ng x) m i k hm2
  unfold Ieee.Format.div
  rw [rx, read_pw hk]
  refine h.trans ?_
  rw [← hm, nearest_scale]
  congr 2; omega

/-- The exponent of the unit; the one beyond the greatest number. (Closed to reduction: these powers are never written out.) -/
@[irreducible] def W : Nat := 1074
theorem W_eq : W = 1074 := by unfold W; rfl
@[irreducible] def X : Nat := 2046
theorem X_eq : X = 2046 := by unfold X; rfl

/-- Units that a word can have (but for overflow). -/
def Rep (U : Nat) : Prop := ∃ q d, U = q * 2 ^ d ∧ q < 9007199254740992
theorem rep_un (r : Nat) : Rep (un r) := by
  rcases rung_form r with h | ⟨d, k, h1, h2, rfl⟩
  · rw [un_low h]; exact ⟨r, 0, by omega, by omega⟩
  · rw [un_high h1 (by omega)]; exact ⟨k, d, rfl, h2⟩
theorem Rep.scale {U : Nat} (h : Rep U) (k : Nat) : Rep (U * 2 ^ k) := by
  obtain ⟨q, d, rfl, hq⟩ := h
  exact ⟨q, d + k, by rw [Nat.mul_assoc, ← Nat.pow_add], hq⟩
theorem rep_small {n : Nat} (h : n < 9007199254740992) (d : Nat) : Rep (n * 2 ^ d) := ⟨n, d, rfl, h⟩
theorem rep_le {n : Nat} (h : n ≤ 9007199254740992) (d : Nat) : Rep (n * 2 ^ d) := by
  by_cases e : n = 9007199254740992
  · exact ⟨1, 53 + d, by rw [e, Nat.pow_add, Nat.one_mul], by omega⟩
  · exact rep_small (by omega) d
theorem un_ru_rep {U : Nat} (h : Rep U) : un (ru U) = U := by
  obtain ⟨q, d, rfl, hq⟩ := h
  rw [un_ru]
  by_cases h0 : q = 0
  · subst h0; rw [Nat.zero_mul]; decide
  have hl : q.log2 < 53 := (Nat.log2_lt h0).2 (by omega)
  rw [log2_mul q d h0]
  generalize hd : q.log2 + d - 52 = d'
  have e : q * 2 ^ d = q * 2 ^ (d - d') * 2 ^ d' := by rw [Nat.mul_assoc, ← Nat.pow_add]; congr 2; omega
  rw [e, rnd_dvd _ _ (Nat.two_pow_pos _)]
theorem ru_lt_inf {U : Nat} (h : Rep U) (hU : U < 2 ^ (52 + X)) : ru U < 9218868437227405312 := by
  rw [← un_lt_iff, un_ru_rep h]
  have e : 9218868437227405312 = X * 4503599627370496 + 4503599627370496 := by rw [X_eq]
  rw [e, un_high (by omega) (by omega), show 4503599627370496 * 2 ^ X = 2 ^ 52 * 2 ^ X from rfl, ← Nat.pow_add]
  exact hU
/-- The nearest word of units that a word can have. -/
theorem near_rep {s : Bool} {U : Nat} (h : Rep U) (hU : U < 2 ^ (52 + X)) : Fin (Ieee.double.nearest s U (-1074)) ∧ ng (Ieee.double.nearest s U (-1074)) = s ∧
    un (rg (Ieee.double.nearest s U (-1074))) = U ∧ Ieee.double.nearest s U (-1074) < 18446744073709551616 := by
  have hr := ru_lt_inf h hU
  have hc : cap (ru U) = ru U := by unfold cap; omega
  rw [near_eq, hc]
  have hlt : ru U < 9223372036854775808 := by omega
  refine ⟨?_, ng_word s hlt, ?_, word_lt s hlt⟩
  · unfold Fin; rw [rg_word s hlt]; exact hr
  · rw [rg_word s hlt, un_ru_rep h]
theorem sv_of {w U : Nat} {s : Bool} (h1 : ng w = s) (h2 : un (rg w) = U) : sv w = sg s U := by unfold sv; rw [h1, h2]

/-- A whole number as a word. -/
theorem ofInt_eq (n : Int) : Go.FloatKind.nearest .f64 n = Ieee.double.nearest (decide (n < 0)) (n.natAbs * 2 ^ W) (-1074) := by
  rw [nearest_scale, W_eq]; rfl
theorem pw_eq {k : Nat} (h : k ≤ 1000) : Go.FloatKind.nearest .f64 ((2 ^ k : Nat) : Int) = pw k := by
  rw [ofInt_eq, near_eq]
  have e1 : ((2 ^ k : Nat) : Int).natAbs = 2 ^ k := rfl
  have hW := W_eq
  have e2 : decide (((2 ^ k : Nat) : Int) < 0) = false := by rw [decide_eq_false_iff_not]; generalize 2 ^ k = a; omega
  have e3 : 2 ^ (k + W) = 4503599627370496 * 2 ^ (k + 1022) := by
    rw [show 4503599627370496 * 2 ^ (k + 1022) = 2 ^ 52 * 2 ^ (k + 1022) from rfl, ← Nat.pow_add]; congr 1; omega
  rw [e1, e2, ← Nat.pow_add, e3]
  rw [ru_exact (by omega) (by omega)]
  unfold cap Ieee.Format.word pw
  simp only [Bool.false_eq_true, if_false]
  omega

/-- A division that drops all: the divisor may be cut where it is far above. -/
theorem div_min (n d : Nat) : n / 2 ^ min d (n.log2 + 2) = n / 2 ^ d := by
  by_cases h : d ≤ n.log2 + 2
  · rw [Nat.min_eq_left h]
  · rw [Nat.min_eq_right (by omega), Nat.div_eq_of_lt, Nat.div_eq_of_lt]
    · exact Nat.lt_of_lt_of_le Nat.lt_log2_self (Nat.pow_le_pow_right (by omega) (by omega))
    · exact Nat.lt_of_lt_of_le Nat.lt_log2_self (Nat.pow_le_pow_right (by omega) (by omega))
theorem rnd_far {n g : Nat} (h : 2 * n < g) : rnd n g = 0 := by
  unfold rnd
  rw [Nat.div_eq_of_lt (by omega), Nat.mod_eq_of_lt (by omega), if_neg (by omega)]
theorem rnd_min (n d : Nat) : rnd n (2 ^ min d (n.log2 + 2)) = rnd n (2 ^ d) := by
  by_cases h : d ≤ n.log2 + 2
  · rw [Nat.min_eq_left h]
  · rw [Nat.min_eq_right (by omega)]
    have h1 : n < 2 ^ (n.log2 + 1) := Nat.lt_log2_self
    have h2 : 2 ^ (n.log2 + 2) = 2 * 2 ^ (n.log2 + 1) := by rw [Nat.pow_succ 2 (n.log2 + 1)]; omega
    have h3 : 2 ^ (n.log2 + 2) ≤ 2 ^ d := Nat.pow_le_pow_right (by omega) (by omega)
    rw [rnd_far (by omega), rnd_far (by omega)]

theorem cut_zero (s : Bool) (n d : Nat) : Toward.zero.cut s n d = n / 2 ^ d := by
  unfold Toward.cut
  simp only [Nat.one_shiftLeft, Bool.toNat_false, Nat.add_zero]
  exact div_min n d
theorem cut_even' (s : Bool) (n d : Nat) : Toward.even.cut s n d = rnd n (2 ^ d) := by rw [cut_even, rnd_min]

/-- n * 2^a over 2^1074, where the places meet. -/
theorem whole_div {m : Nat} {i : Int} (hi : -1074 ≤ i) : m * 2 ^ i.toNat / 2 ^ (-i).toNat = m * 2 ^ (i + 1074).toNat / 2 ^ W := by
  have hW := W_eq
  by_cases h0 : 0 ≤ i
  · rw [show (-i).toNat = 0 from by omega, Nat.pow_zero, Nat.div_one, show (i + 1074).toNat = i.toNat + W from by omega, Nat.pow_add, ← Nat.mul_assoc, Nat.mul_div_cancel _ (Nat.two_pow_pos _)]
  · have e : 2 ^ W = 2 ^ (-i).toNat * 2 ^ (i + 1074).toNat := by rw [← Nat.pow_add]; congr 1; omega
    rw [show i.toNat = 0 from by omega, Nat.pow_zero, Nat.mul_one, e, Nat.mul_div_mul_right _ _ (Nat.two_pow_pos _)]
theorem whole_rnd {m : Nat} {i : Int} (hi : -1074 ≤ i) : rnd (m * 2 ^ i.toNat) (2 ^ (-i).toNat) = rnd (m * 2 ^ (i + 1074).toNat) (2 ^ W) := by
  have hW := W_eq
  by_cases h0 : 0 ≤ i
  · rw [show (-i).toNat = 0 from by omega, Nat.pow_zero, rnd_one, show (i + 1074).toNat = i.toNat + W from by omega, Nat.pow_add, ← Nat.mul_assoc, rnd_dvd _ _ (Nat.two_pow_pos _)]
  · have e : 2 ^ W = 2 ^ (-i).toNat * 2 ^ (i + 1074).toNat := by rw [← Nat.pow_add]; congr 1; omega
    rw [show i.toNat = 0 from by omega, Nat.pow_zero, Nat.mul_one, e, rnd_scale]

theorem integral_zero {w : Nat} (h : Fin w) : (Ieee.double.read w).integral .zero = .number (ng w) (un (rg w) / 2 ^ W) 0 := by
  obtain ⟨m, i, rw_, hi, hm, _⟩ := read_fin h
  rw [rw_]; simp only [Ieee.Datum.integral]
  rw [cut_zero, Nat.shiftLeft_eq, whole_div hi, hm]
theorem integral_even {w : Nat} (h : Fin w) : (Ieee.double.read w).integral .even = .number (ng w) (rnd (un (rg w)) (2 ^ W)) 0 := by
  obtain ⟨m, i, rw_, hi, hm, _⟩ := read_fin h
  rw [rw_]; simp only [Ieee.Datum.integral]
  rw [cut_even', Nat.shiftLeft_eq, whole_rnd hi, hm]
theorem toInt_fin {w : Nat} (h : Fin w) : (Ieee.double.read w).toInt .zero = some (sg (ng w) (un (rg w) / 2 ^ W)) := by
  unfold Ieee.Datum.toInt
  rw [integral_zero h]
  simp only [signed_eq, Nat.pow_zero, Nat.mul_one]
theorem write_whole (s : Bool) (n : Nat) : Ieee.double.write (.number s n 0) = Ieee.double.nearest s (n * 2 ^ W) (-1074) := by
  rw [nearest_scale, W_eq]; rfl
end Fl
end Go.Proofs.Ytgppjajkhdhcaaa
