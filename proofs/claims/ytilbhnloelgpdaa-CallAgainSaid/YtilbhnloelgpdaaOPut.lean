/- Cells laid over a row of the call's own; clear at elements of whatever size. -/
import Derived.Test.YtilbhnloelgpdaaOIndex
import Derived.Laws.IdiomCopy
import Derived.Deep.MidRow
namespace Go.Proofs.Ytilbhnloelgpdaa
open Go.RowKit
set_option linter.unusedVariables false
set_option linter.unusedSimpArgs false
/-- xs, from p on vs. -/
def over (xs : List Value) (p : Nat) (vs : List Value) : List Value := xs.take p ++ vs ++ xs.drop (p + vs.length)
theorem over_length {xs vs : List Value} {p : Nat} (h : p + vs.length ≤ xs.length) : (over xs p vs).length = xs.length := by
  unfold over
  rw [List.length_append, List.length_append, List.length_take, List.length_drop]; omega
theorem over_in {xs vs : List Value} {p j : Nat} (h : p + vs.length ≤ xs.length) (hj : j < vs.length) : (over xs p vs)[p + j]? = vs[j]? := by
  unfold over
  rw [List.append_assoc, List.getElem?_append_right (by rw [List.length_take]; omega), List.length_take, Nat.min_eq_left (by omega), Nat.add_sub_cancel_left, List.getElem?_append_left hj]
theorem over_out {xs vs : List Value} {p j : Nat} (h : p + vs.length ≤ xs.length) (hj : j < p ∨ p + vs.length ≤ j) : (over xs p vs)[j]? = xs[j]? := by
  unfold over
  rcases hj with hj | hj
  · rw [List.append_assoc, List.getElem?_append_left (by rw [List.length_take]; omega), List.getElem?_take_of_lt hj]
  · rw [List.getElem?_append_right (by rw [List.length_append, List.length_take]; omega), List.length_append, List.length_take, Nat.min_eq_left (by omega), List.getElem?_drop]
    congr 1; omega
section
variable {w0 w : World} {sz n : Nat} {xs : List Value}
theorem Mine.over {A : Option Addr} {c : Nat} (h : Mine w0 w sz (.slice A n c) n xs) {p : Nat} {vs : List Value} (hp : p + vs.length ≤ n * sz) (hv : 0 < vs.length) :
    ∃ g off, A = some ⟨g, off, none⟩ ∧ w0.heap.size ≤ g ∧ (∀ j, j < vs.length → (w.cell? ⟨g, off + p + j, none⟩).isSome = true ∧ w.frozen? ⟨g, off + p + j, none⟩ = false) ∧ Mine w0 (w.setCells g (off + p) vs) sz (.slice A n c) n (over xs p vs) := by
  obtain ⟨b, ⟨h0, A', c', heq, h1, h2, h3⟩, hb⟩ := h
  cases heq
  have hnc : n * sz ≤ c * sz := Nat.mul_le_mul_right _ h1
  rcases h3 with ⟨_, h4⟩ | ⟨g, off, rfl, rfl, hg, h5, h6⟩
  · subst h4
    rw [Nat.zero_mul] at hnc
    omega
  · have hc : ∀ j, j < vs.length → (w.cell? ⟨g, off + p + j, none⟩).isSome = true ∧ w.frozen? ⟨g, off + p + j, none⟩ = false := fun j hj => by
      rw [Nat.add_assoc]; exact h5 (p + j) (by omega)
    have hk := World.keptBut_setCells g (may := fun _ => True) vs (off + p) w fun _ _ => trivial
    refine ⟨g, off, rfl, hb g rfl, hc, some g, ⟨by rw [over_length (by omega)]; exact h0, _, _, rfl, h1, h2, .inr ⟨g, off, rfl, rfl, Nat.lt_of_lt_of_le hg hk.size, fun i hi => ⟨World.isSome_setCells _ _ _ _ _ (h5 i hi).1, by rw [World.frozen?_setCells]; exact (h5 i hi).2⟩, fun i hi => ?_⟩⟩, hb⟩
    by_cases hin : p ≤ i ∧ i < p + vs.length
    · have := World.cell?_setCells_in g vs (off + p) w (fun j hj => (hc j hj).1) (i - p) (by omega)
      rw [show off + p + (i - p) = off + i from by omega] at this
      have e := over_in (xs := xs) (vs := vs) (p := p) (j := i - p) (by omega) (by omega)
      rw [show p + (i - p) = i from by omega] at e
      rw [this, e, List.getElem?_eq_getElem (by omega)]
    · rw [World.cell?_setCells_out g vs (off + p) w ⟨g, off + i, none⟩ (fun _ _ => by show off + i < _ ∨ _ ≤ off + i; omega), over_out (by omega) (by omega)]
      exact h6 i hi
end
theorem zeroCells_mem {zero : Array Value} {n : Nat} : ∀ v ∈ (Builtin.zeroCells zero n).toList, v ∈ zero.toList := by
  intro v hv
  unfold Builtin.zeroCells at hv
  simp only [Array.toList_map, List.mem_map] at hv
  obtain ⟨i, hi, rfl⟩ := hv
  have hi' : i < n * zero.size := by simpa using hi
  have hz : 0 < zero.size := by
    rcases Nat.eq_zero_or_pos zero.size with h | h
    · rw [h] at hi'; omega
    · exact h
  rw [getElem!_pos zero (i % zero.size) (Nat.mod_lt _ hz)]
  simp
theorem zeroCells_length (zero : Array Value) (n : Nat) : (Builtin.zeroCells zero n).toList.length = n * zero.size := by simp [Builtin.zeroCells]
/-- clear at n elements of whatever size. -/
theorem run_clear_rows {P : Program} (w : World) (t e ty : TypeId) (z : Value) (ht : P.underlying t = some (.slice e)) (hv : ∀ w, (zeroValue e).run P w = .ok z w) (h1 : ∀ u ∈ z.cells.toList, u.oneCell' = true) (b o n c : Nat) (hn : 0 < n)
    (hc : ∀ j, j < n * z.cells.size → (w.cell? ⟨b, o + j, none⟩).isSome = true ∧ w.frozen? ⟨b, o + j, none⟩ = false) :
    (Builtin.clear_ #[t] ty #[.slice (some ⟨b, o, none⟩) n c]).run P w = .ok (.tuple #[]) (w.setCells b o (Builtin.zeroCells z.cells n).toList) := by
  have hst := run_storeCells_cells (P := P) b o (Builtin.zeroCells z.cells n).toList 0 w (fun j hj => (hc j (by rwa [zeroCells_length] at hj)).1) (fun j hj => (hc j (by rwa [zeroCells_length] at hj)).2) (fun v hv' => h1 v (zeroCells_mem v hv'))
  simp only [Nat.add_zero] at hst
  obtain ⟨m, rfl⟩ : ∃ m, n = m + 1 := ⟨n - 1, by omega⟩
  simp [Builtin.clear_, run_underlying ht, hv, hst]
end Go.Proofs.Ytilbhnloelgpdaa
