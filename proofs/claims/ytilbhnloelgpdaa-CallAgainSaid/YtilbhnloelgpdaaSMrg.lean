/- Merging two sorted lists, in plain: what the binary searches find. -/
import Derived.Test.YtilbhnloelgpdaaSIns
namespace Go.Proofs.Ytilbhnloelgpdaa
open Go.RowKit
set_option linter.unusedVariables false
set_option linter.unusedSimpArgs false
theorem w_add {a b c : Nat} (h : a + b = c) (hc : c ≤ 100000) : IntKind.i64.wrap ((a : Int) + (b : Int)) = (c : Int) := by rw [IntKind.wrap_i64]; omega
theorem w_sub {a b c : Nat} (h : b + c = a) (hc : a ≤ 100000) : IntKind.i64.wrap ((a : Int) - (b : Int)) = (c : Int) := by rw [IntKind.wrap_i64]; omega
theorem w_one {a c : Nat} (h : a + 1 = c) (hc : c ≤ 100000) : IntKind.i64.wrap ((a : Int) + 1) = (c : Int) := by rw [IntKind.wrap_i64]; omega
theorem w_less {a c : Nat} (h : c + 1 = a) (hc : a ≤ 100000) : IntKind.i64.wrap ((a : Int) - 1) = (c : Int) := by rw [IntKind.wrap_i64]; omega
theorem w_mid {i j x : Nat} (h : (i + j) / 2 = x) (hc : i + j ≤ 100000) : IntKind.i64.wrap ((i : Int) + (j : Int)) = (i : Int) + (j : Int) ∧ IntKind.u64.wrap ((i : Int) + (j : Int)) = (i : Int) + (j : Int) ∧ wrap64 (((i : Int) + (j : Int)) / 2) = (x : Int) :=
  ⟨by rw [IntKind.wrap_i64]; omega, by rw [IntKind.wrap_u64]; omega, by unfold wrap64; omega⟩
section
variable {sd : Bool}
theorem getD_mem {M : List Ord} {i : Nat} (h : i < M.length) : M.getD i ord0 ∈ M := by
  rw [List.getD_eq_getElem?_getD, List.getElem?_eq_getElem h]; exact List.getElem_mem h
theorem sortd_at {M : List Ord} (h : Sortd (fst sd) M) {i j : Nat} (hij : i ≤ j) (hj : j < M.length) : fst sd (M.getD j ord0) (M.getD i ord0) = false := by
  rcases Nat.lt_or_eq_of_le hij with hij | rfl
  · have := List.pairwise_iff_getElem.1 h i j (by omega) hj hij
    rw [List.getD_eq_getElem?_getD, List.getD_eq_getElem?_getD, List.getElem?_eq_getElem hj, List.getElem?_eq_getElem (by omega)]
    exact this
  · exact (fst_swo sd).irr _
theorem mem_take_at {M : List Ord} {s : Nat} {x : Ord} (h : x ∈ M.take s) : ∃ i, i < s ∧ i < M.length ∧ x = M.getD i ord0 := by
  obtain ⟨i, hi, e⟩ := List.getElem_of_mem h
  rw [List.length_take] at hi
  refine ⟨i, by omega, by omega, ?_⟩
  rw [← e, List.getElem_take, List.getD_eq_getElem?_getD, List.getElem?_eq_getElem (by omega)]; rfl
theorem mem_drop_at {M : List Ord} {s : Nat} {x : Ord} (h : x ∈ M.drop s) : ∃ i, s ≤ i ∧ i < M.length ∧ x = M.getD i ord0 := by
  obtain ⟨i, hi, e⟩ := List.getElem_of_mem h
  rw [List.length_drop] at hi
  refine ⟨s + i, by omega, by omega, ?_⟩
  rw [← e, List.getElem_drop, List.getD_eq_getElem?_getD, List.getElem?_eq_getElem (by omega)]; rfl
/-- u goes into V behind what is below it. -/
theorem mrg_one {V : List Ord} {u : Ord} {s : Nat} (hv : Sortd (fst sd) V) (hs : s ≤ V.length) (h1 : s = 0 ∨ fst sd (V.getD (s - 1) ord0) u = true) (h2 : s = V.length ∨ fst sd (V.getD s ord0) u = false) : Stab (fst sd) (u :: V) (V.take s ++ u :: V.drop s) := by
  have hw := fst_swo sd
  have := stab_insert2 hw (S1 := V.take s) (S2 := V.drop s) (o := u) (by rw [List.take_append_drop]; exact hv) (fun x hx => ?_) (fun x hx => ?_)
  · rwa [List.take_append_drop] at this
  · obtain ⟨i, h3, h4, rfl⟩ := mem_take_at hx
    rcases h1 with h1 | h1
    · omega
    · exact hw.le_lt (sortd_at hv (i := i) (j := s - 1) (by omega) (by omega)) h1
  · obtain ⟨i, h3, h4, rfl⟩ := mem_drop_at hx
    rcases h2 with h2 | h2
    · omega
    · exact hw.le_trans h2 (sortd_at hv (i := s) (j := i) (by omega) (by omega))
/-- v goes into U behind what is not above it. -/
theorem mrg_last {U : List Ord} {v : Ord} {s : Nat} (hu : Sortd (fst sd) U) (hs : s ≤ U.length) (h1 : s = 0 ∨ fst sd v (U.getD (s - 1) ord0) = false) (h2 : s = U.length ∨ fst sd v (U.getD s ord0) = true) : Stab (fst sd) (U ++ [v]) (U.take s ++ v :: U.drop s) := by
  have hw := fst_swo sd
  have := stab_insert hw (S1 := U.take s) (S2 := U.drop s) (o := v) (by rw [List.take_append_drop]; exact hu) (fun x hx => ?_) (fun x hx => ?_)
  · rwa [List.take_append_drop] at this
  · obtain ⟨i, h3, h4, rfl⟩ := mem_take_at hx
    rcases h1 with h1 | h1
    · omega
    · exact hw.le_trans (sortd_at hu (i := i) (j := s - 1) (by omega) (by omega)) h1
  · obtain ⟨i, h3, h4, rfl⟩ := mem_drop_at hx
    rcases h2 with h2 | h2
    · omega
    · exact hw.lt_le h2 (sortd_at hu (i := s) (j := i) (by omega) (by omega))
/-- Where two sorted lists are cut so that the middle parts may change places. -/
theorem mrg_cut {U V L R : List Ord} (hu : Sortd (fst sd) U) (hv : Sortd (fst sd) V) {s t : Nat} (hs : s ≤ U.length) (ht : t ≤ V.length)
    (h1 : s = U.length ∨ t = 0 ∨ fst sd (V.getD (t - 1) ord0) (U.getD s ord0) = true) (h2 : s = 0 ∨ t = V.length ∨ fst sd (V.getD t ord0) (U.getD (s - 1) ord0) = false)
    (hL : Stab (fst sd) (U.take s ++ V.take t) L) (hR : Stab (fst sd) (U.drop s ++ V.drop t) R) : Stab (fst sd) (U ++ V) (L ++ R) := by
  have hw := fst_swo sd
  have := stab_merge hw (U1 := U.take s) (U2 := U.drop s) (V1 := V.take t) (V2 := V.drop t) (by rw [List.take_append_drop]; exact hu) (by rw [List.take_append_drop]; exact hv) (fun x hx y hy => ?_) (fun x hx y hy => ?_) hL hR
  · rwa [List.take_append_drop, List.take_append_drop] at this
  · obtain ⟨i, h3, h4, rfl⟩ := mem_drop_at hx
    obtain ⟨j, h5, h6, rfl⟩ := mem_take_at hy
    rcases h1 with h1 | h1 | h1
    · omega
    · omega
    · exact hw.lt_le (hw.le_lt (sortd_at hv (i := j) (j := t - 1) (by omega) (by omega)) h1) (sortd_at hu (i := s) (j := i) (by omega) (by omega))
  · obtain ⟨i, h3, h4, rfl⟩ := mem_take_at hx
    obtain ⟨j, h5, h6, rfl⟩ := mem_drop_at hy
    rcases h2 with h2 | h2 | h2
    · omega
    · omega
    · exact hw.le_trans (sortd_at hu (i := i) (j := s - 1) (by omega) (by omega)) (hw.le_trans h2 (sortd_at hv (i := t) (j := j) (by omega) (by omega)))
theorem sortd_take {M : List Ord} (h : Sortd (fst sd) M) (s : Nat) : Sortd (fst sd) (M.take s) := by
  have : Sortd (fst sd) (M.take s ++ M.drop s) := by rw [List.take_append_drop]; exact h
  exact (sortd_append.1 this).1
theorem sortd_drop {M : List Ord} (h : Sortd (fst sd) M) (s : Nat) : Sortd (fst sd) (M.drop s) := by
  have : Sortd (fst sd) (M.take s ++ M.drop s) := by rw [List.take_append_drop]; exact h
  exact (sortd_append.1 this).2.1
/-- One list of the two is empty. -/
theorem mrg_none {U V : List Ord} (hu : Sortd (fst sd) U) (hv : Sortd (fst sd) V) (h : U = [] ∨ V = []) : Stab (fst sd) (U ++ V) (U ++ V) := by
  refine Stab.refl ?_
  rcases h with rfl | rfl
  · exact hv
  · rw [List.append_nil]; exact hu
/-- What is to be merged. -/
structure SymPre (sd : Bool) (U V : List Ord) : Prop where
  bu : ∀ o ∈ U ++ V, o.buys = sd
  su : Sortd (fst sd) U
  sv : Sortd (fst sd) V
  u0 : 0 < U.length
  v0 : 0 < V.length
end
end Go.Proofs.Ytilbhnloelgpdaa
