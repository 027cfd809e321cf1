/- The plain law of Shares: all of it is parted, and nobody gets more than the gap. -/
import Derived.Test.YtccmafmeblojpaaSale
namespace Go.Proofs.Ytccmafmeblojpaa
namespace Sh
/-- How many gaps among the first i of out are not filled. -/
def open_ (gaps out : List Int) : Nat → Nat
  | 0 => 0
  | i + 1 => open_ gaps out i + (if out.getD i 0 < gaps.getD i 0 then 1 else 0)
theorem bumps_left (gaps : List Int) (left : Int) (out : List Int) (h0 : 0 ≤ left) (i : Nat) : (bumps gaps left out i).1 = if (open_ gaps out i : Int) ≤ left then left - open_ gaps out i else 0 := by
  induction i with
  | zero => simp [bumps, open_]; omega
  | succ i ih =>
    rw [bumps, open_]
    have hx := bumps_at gaps left out i i (Nat.le_refl _)
    rw [hx, ih]
    by_cases h1 : out.getD i 0 < gaps.getD i 0
    · rw [if_pos h1]
      by_cases h2 : (open_ gaps out i : Int) ≤ left
      · rw [if_pos h2]
        by_cases h3 : 0 < left - (open_ gaps out i : Int)
        · rw [if_pos ⟨h3, h1⟩]
          simp only
          push_cast
          rw [if_pos (by omega)]; omega
        · rw [if_neg fun h => h3 h.1, ih, if_pos h2]
          push_cast
          rw [if_neg (by omega)]; omega
      · rw [if_neg h2, if_neg fun h => absurd h.1 (by omega), ih, if_neg h2]
        push_cast
        rw [if_neg (by omega)]
    · rw [if_neg h1, if_neg fun h => h1 h.2, ih]
      push_cast
      simp
theorem sum_set (l : List Int) {i : Nat} (h : i < l.length) (x : Int) : (l.set i x).sum = l.sum - l.getD i 0 + x := by
  induction l generalizing i with
  | nil => simp at h
  | cons a l ih =>
    cases i with
    | zero => simp; omega
    | succ i =>
      have := ih (i := i) (by simpa using h)
      rw [List.set_cons_succ, List.sum_cons, this, List.sum_cons]
      simp only [List.getD_cons_succ]
      omega
/-- Nothing is lost: what is laid and what is left stay the same together. -/
theorem bumps_sum (gaps : List Int) (left : Int) (out : List Int) (i : Nat) (hi : i ≤ out.length) : (bumps gaps left out i).1 + (bumps gaps left out i).2.sum = left + out.sum := by
  induction i with
  | zero => rfl
  | succ i ih =>
    have ih := ih (by omega)
    rw [bumps]
    split
    · simp only
      rw [sum_set _ (by rw [bumps_length]; omega)]
      omega
    · exact ih
theorem bumps_le (gaps : List Int) (left : Int) (out : List Int) (h : ∀ j, out.getD j 0 ≤ gaps.getD j 0) (i : Nat) : ∀ j, (bumps gaps left out i).2.getD j 0 ≤ gaps.getD j 0 := by
  induction i with
  | zero => exact h
  | succ i ih =>
    intro j
    rw [bumps]
    split
    · rename_i hc
      simp only
      by_cases e : i = j
      · subst e
        rw [List.getD_eq_getElem?_getD (l := List.set _ _ _)]
        by_cases hl : i < (bumps gaps left out i).2.length
        · rw [List.getElem?_set_self hl]; simp only [Option.getD_some]; omega
        · rw [List.getElem?_eq_none (by rw [List.length_set]; omega)]
          have := ih i
          rw [List.getD_eq_getElem?_getD (l := (bumps gaps left out i).2), List.getElem?_eq_none (by omega)] at this
          exact this
      · rw [List.getD_eq_getElem?_getD (l := List.set _ _ _), List.getElem?_set_ne e, ← List.getD_eq_getElem?_getD]
        exact ih j
    · exact ih j
/-- n g over S: at most g, and less where something is lost. -/
theorem first_le {n S g : Int} (_hn : 0 ≤ n) (hnS : n ≤ S) (hg : 0 ≤ g) (hS : 0 < S) : first n S g ≤ g ∧ (first n S g * S < n * g → first n S g < g) ∧ first n S g * S ≤ n * g ∧ n * g < first n S g * S + S := by
  unfold first
  rw [if_pos hS]
  have h1 : n * g ≤ S * g := Int.mul_le_mul_of_nonneg_right hnS hg
  have h2 := Int.ediv_mul_le (n * g) (show S ≠ 0 by omega)
  have h3 := Int.lt_ediv_add_one_mul_self (n * g) hS
  rw [Int.add_mul, Int.one_mul] at h3
  have h4 : n * g / S ≤ g := by
    have := Int.ediv_le_ediv hS h1
    rw [Int.mul_comm S g, Int.mul_ediv_cancel _ (by omega)] at this
    exact this
  refine ⟨h4, fun h => ?_, h2, h3⟩
  rcases Int.lt_or_eq_of_le h4 with h5 | h5
  · exact h5
  · rw [h5] at h
    rw [Int.mul_comm S g] at h1
    omega
theorem left_open {n : Int} {gaps : List Int} (hn : 0 ≤ n) (h : ∀ g ∈ gaps, 0 ≤ g) (hS : 0 < gaps.sum) (hnS : n ≤ gaps.sum) (i : Nat) (hi : i ≤ gaps.length) :
    n * (gaps.take i).sum - ((firsts n gaps).take i).sum * gaps.sum ≤ gaps.sum * open_ gaps (firsts n gaps) i ∧ 0 ≤ n * (gaps.take i).sum - ((firsts n gaps).take i).sum * gaps.sum := by
  induction i with
  | zero => simp [open_]
  | succ i ih =>
    have hlt : i < gaps.length := by omega
    obtain ⟨ih1, ih2⟩ := ih (by omega)
    have hg0 : 0 ≤ gaps.getD i 0 := by
      rw [List.getD_eq_getElem?_getD, List.getElem?_eq_getElem hlt]; exact h _ (List.getElem_mem hlt)
    have hf : (firsts n gaps).getD i 0 = first n gaps.sum (gaps.getD i 0) := by
      unfold firsts
      rw [List.getD_eq_getElem?_getD, List.getElem?_map, List.getElem?_eq_getElem hlt, List.getD_eq_getElem?_getD, List.getElem?_eq_getElem hlt]; rfl
    obtain ⟨f1, f2, f3, f4⟩ := first_le hn hnS hg0 hS
    rw [sum_take _ hlt, sum_take _ (by rw [firsts_length]; exact hlt), open_, hf, Int.mul_add, Int.add_mul]
    by_cases hlt2 : first n gaps.sum (gaps.getD i 0) < gaps.getD i 0
    · rw [if_pos hlt2]
      push_cast
      rw [Int.mul_add, Int.mul_one]
      omega
    · rw [if_neg hlt2]
      push_cast
      have : ¬ first n gaps.sum (gaps.getD i 0) * gaps.sum < n * gaps.getD i 0 := fun hh => hlt2 (f2 hh)
      rw [Int.mul_add, Int.mul_zero]
      omega
theorem shares_sum {n : Int} {gaps : List Int} (hn : 0 ≤ n) (h : ∀ g ∈ gaps, 0 ≤ g) (hS : 0 < gaps.sum) (hnS : n ≤ gaps.sum) : (shares n gaps).sum = n := by
  obtain ⟨h1, h2⟩ := left_open hn h hS hnS gaps.length (Nat.le_refl _)
  rw [List.take_of_length_le (Nat.le_refl _), List.take_of_length_le (by rw [firsts_length]; exact Nat.le_refl _), ← Int.sub_mul] at h1 h2
  have h3 : 0 ≤ n - (firsts n gaps).sum := by
    rcases Int.lt_or_le (n - (firsts n gaps).sum) 0 with h3 | h3
    · have := Int.mul_neg_of_neg_of_pos h3 hS; omega
    · exact h3
  have h4 : n - (firsts n gaps).sum ≤ open_ gaps (firsts n gaps) gaps.length := by
    rw [Int.mul_comm gaps.sum] at h1
    exact Int.le_of_mul_le_mul_right h1 hS
  have h5 := bumps_left gaps _ (firsts n gaps) h3 gaps.length
  have h6 := bumps_sum gaps (n - (firsts n gaps).sum) (firsts n gaps) gaps.length (by rw [firsts_length]; exact Nat.le_refl _)
  unfold shares
  rw [h5] at h6
  split at h6 <;> omega
theorem shares_le {n : Int} {gaps : List Int} (hn : 0 ≤ n) (h : ∀ g ∈ gaps, 0 ≤ g) (hS : 0 < gaps.sum) (hnS : n ≤ gaps.sum) (j : Nat) : (shares n gaps).getD j 0 ≤ gaps.getD j 0 := by
  unfold shares
  refine bumps_le gaps _ _ (fun j => ?_) _ j
  by_cases hlt : j < gaps.length
  · have hg0 : 0 ≤ gaps.getD j 0 := by
      rw [List.getD_eq_getElem?_getD, List.getElem?_eq_getElem hlt]; exact h _ (List.getElem_mem hlt)
    have hf : (firsts n gaps).getD j 0 = first n gaps.sum (gaps.getD j 0) := by
      unfold firsts
      rw [List.getD_eq_getElem?_getD, List.getElem?_map, List.getElem?_eq_getElem hlt, List.getD_eq_getElem?_getD, List.getElem?_eq_getElem hlt]; rfl
    rw [hf]
    exact (first_le hn hnS hg0 hS).1
  · rw [List.getD_eq_getElem?_getD, List.getElem?_eq_none (by rw [firsts_length]; omega), List.getD_eq_getElem?_getD, List.getElem?_eq_none (by omega)]
    simp
end Sh
end Go.Proofs.Ytccmafmeblojpaa
