/- The order law of Shares: a greater gap gets not less but for one, and of equal gaps the first not less. -/
import Derived.Test.YtccmafmeblojpaaShLaw
namespace Go.Proofs.Ytccmafmeblojpaa
namespace Sh
theorem bumps_step (gaps : List Int) (left : Int) (out : List Int) {j : Nat} (hj : j < out.length) :
    (bumps gaps left out (j + 1)).2.getD j 0 = if 0 < (bumps gaps left out j).1 ∧ out.getD j 0 < gaps.getD j 0 then out.getD j 0 + 1 else out.getD j 0 := by
  have hx := bumps_at gaps left out j j (Nat.le_refl _)
  rw [bumps, hx]
  split
  · simp only
    rw [List.getD_eq_getElem?_getD (l := List.set _ _ _), List.getElem?_set_self (by rw [bumps_length]; exact hj)]; rfl
  · exact hx
theorem bumps_fix (gaps : List Int) (left : Int) (out : List Int) (j : Nat) : ∀ i, j < i → (bumps gaps left out i).2.getD j 0 = (bumps gaps left out (j + 1)).2.getD j 0 := by
  intro i
  induction i with
  | zero => intro h; omega
  | succ i ih =>
    intro h
    by_cases e : i = j
    · rw [e]
    · rw [← ih (by omega)]
      conv => lhs; rw [bumps]
      split
      · simp only
        rw [List.getD_eq_getElem?_getD (l := List.set _ _ _), List.getElem?_set_ne e, ← List.getD_eq_getElem?_getD]
      · rfl
theorem bumps_falls (gaps : List Int) (left : Int) (out : List Int) (i k : Nat) (h : i ≤ k) : (bumps gaps left out k).1 ≤ (bumps gaps left out i).1 := by
  induction k with
  | zero => rw [show i = 0 from by omega]; exact Int.le_refl _
  | succ k ih =>
    by_cases e : i = k + 1
    · rw [e]; exact Int.le_refl _
    · have h1 := ih (by omega)
      rw [bumps]
      split
      · simp only; omega
      · exact h1
theorem share_at (n : Int) (gaps : List Int) {j : Nat} (hj : j < gaps.length) :
    (shares n gaps).getD j 0 = if 0 < (bumps gaps (n - (firsts n gaps).sum) (firsts n gaps) j).1 ∧ (firsts n gaps).getD j 0 < gaps.getD j 0 then (firsts n gaps).getD j 0 + 1 else (firsts n gaps).getD j 0 := by
  unfold shares
  rw [bumps_fix _ _ _ _ _ hj, bumps_step _ _ _ (by rw [firsts_length]; exact hj)]
theorem firsts_at (n : Int) (gaps : List Int) {j : Nat} (hj : j < gaps.length) : (firsts n gaps).getD j 0 = first n gaps.sum (gaps.getD j 0) := by
  unfold firsts
  rw [List.getD_eq_getElem?_getD, List.getElem?_map, List.getElem?_eq_getElem hj, List.getD_eq_getElem?_getD, List.getElem?_eq_getElem hj]; rfl
theorem first_mono {n S g g' : Int} (hn : 0 ≤ n) (h : g' ≤ g) : first n S g' ≤ first n S g := by
  unfold first
  split
  · rename_i hS
    exact Int.ediv_le_ediv hS (Int.mul_le_mul_of_nonneg_left h hn)
  · exact Int.le_refl _
theorem shares_more {n : Int} {gaps : List Int} (hn : 0 ≤ n) {i k : Nat} (hi : i < gaps.length) (hk : k < gaps.length) (h : gaps.getD k 0 < gaps.getD i 0) : (shares n gaps).getD k 0 ≤ (shares n gaps).getD i 0 + 1 := by
  have hm := first_mono (S := gaps.sum) hn (Int.le_of_lt h)
  rw [share_at n gaps hi, share_at n gaps hk, firsts_at n gaps hi, firsts_at n gaps hk]
  split <;> split <;> omega
theorem shares_alike {n : Int} {gaps : List Int} {i k : Nat} (hik : i < k) (hk : k < gaps.length) (h : gaps.getD i 0 = gaps.getD k 0) : (shares n gaps).getD k 0 ≤ (shares n gaps).getD i 0 ∧ (shares n gaps).getD i 0 ≤ (shares n gaps).getD k 0 + 1 := by
  have hf := bumps_falls gaps (n - (firsts n gaps).sum) (firsts n gaps) i k (by omega)
  rw [share_at n gaps (show i < gaps.length by omega), share_at n gaps hk, firsts_at n gaps (show i < gaps.length by omega), firsts_at n gaps hk, h]
  split <;> split <;> omega
end Sh
end Go.Proofs.Ytccmafmeblojpaa
