/- Cross's sums and its best, step by step (plain). -/
import Derived.Test.YtilbhnloelgpdaaORights
namespace Go.Proofs.Ytilbhnloelgpdaa
namespace Ca
def bx (R : List Ord) (p : Int) (k : Nat) : Int := bought (R.take k) p
def sx (R : List Ord) (p : Int) (k : Nat) : Int := sold (R.take k) p
def fx (R : List Ord) (k : Nat) : Int × Int := (R.take k).foldl (crossStep R) (0, 0)
theorem bx_next (R : List Ord) (p : Int) {k : Nat} (h : k < R.length) : bx R p (k + 1) = bx R p k + (if (R.getD k ord0).buys = true ∧ p ≤ (R.getD k ord0).price then (R.getD k ord0).amount else 0) := by
  unfold bx
  rw [take_at R h, bought_append, bought_one]
theorem sx_next (R : List Ord) (p : Int) {k : Nat} (h : k < R.length) : sx R p (k + 1) = sx R p k + (if (R.getD k ord0).buys = false ∧ (R.getD k ord0).price ≤ p then (R.getD k ord0).amount else 0) := by
  unfold sx
  rw [take_at R h, sold_append, sold_one]
theorem bx_zero (R : List Ord) (p : Int) : bx R p 0 = 0 ∧ sx R p 0 = 0 := by unfold bx sx; simp [bought, sold]
theorem bx_all (R : List Ord) (p : Int) : min (bx R p R.length) (sx R p R.length) = traded R p := by
  unfold bx sx traded
  rw [List.take_length]
theorem bx_bound {R : List Ord} (h : ∀ o ∈ R, 1 ≤ o.amount ∧ o.amount ≤ 1048576) (p : Int) (k : Nat) : 0 ≤ bx R p k ∧ bx R p k ≤ 1048576 * k ∧ 0 ≤ sx R p k ∧ sx R p k ≤ 1048576 * k := by
  have ht : ∀ o ∈ R.take k, 1 ≤ o.amount ∧ o.amount ≤ 1048576 := fun o ho => h o (List.mem_of_mem_take ho)
  have h1 := bought_bound ht p
  have h2 := sold_bound ht p
  have h3 : (R.take k).length ≤ k := by rw [List.length_take]; omega
  have h4 : ((R.take k).length : Int) ≤ k := by omega
  exact ⟨bought_nonneg (fun o ho => (ht o ho).1) p, by unfold bx; omega, sold_nonneg (fun o ho => (ht o ho).1) p, by unfold sx; omega⟩
theorem fx_zero (R : List Ord) : fx R 0 = (0, 0) := by unfold fx; simp
theorem fx_next (R : List Ord) {k : Nat} (h : k < R.length) : fx R (k + 1) = crossStep R (fx R k) (R.getD k ord0) := by
  unfold fx
  rw [take_at R h, List.foldl_append]; rfl
theorem fx_all (l : List Ord) : fx (rights l) (rights l).length = cross l := by
  unfold fx cross crossOf
  rw [List.take_length]
theorem rights_few (l : List Ord) : (rights l).length ≤ 64 := by
  unfold rights
  split
  · simp
  · have := List.length_filter_le Ord.right l
    omega
end Ca
end Go.Proofs.Ytilbhnloelgpdaa
