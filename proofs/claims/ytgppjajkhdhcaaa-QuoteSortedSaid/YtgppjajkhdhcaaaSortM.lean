/- slices.SortFunc's world on a slice of the call's own: the same slice holds the sorted elements, nothing else has turned. -/
import Derived.Test.YtgppjajkhdhcaaaOwnK
import Derived.Shelf.SlSortCmp.NoneTotal
import Derived.Sort.Grow
namespace Go.Proofs.Ytgppjajkhdhcaaa
open Go.RowKit Go.Sort
section
variable {α : Type} [Inhabited α] {enc : α → Value} {w0 w : World} {g off n c q : Nat} {d d' : Array α} {os : Array Obj}
theorem Mine.holds (h : Mine w0 w 1 (.slice (some ⟨g, off, none⟩) n c) n (d.toList.map enc)) (h0 : 0 < n) : d.size = n ∧ Holds enc w g off d ∧ g < w.heap.size ∧ w0.heap.size ≤ g := by
  obtain ⟨b, ⟨hl, A, c', heq, h1, h2, h3⟩, hb⟩ := h
  cases heq
  simp only [List.length_map, Array.length_toList, Nat.mul_one] at hl
  rcases h3 with ⟨_, h4⟩ | ⟨g', off', rfl, heq, hg, h5, h6⟩
  · omega
  · cases heq
    refine ⟨hl, fun j hj => ⟨?_, (h5 j (by omega)).2⟩, hg, hb g rfl⟩
    rw [h6 j (by omega)]
    simp [hj]
theorem sortWorld_heap (k : Nat) (hk : k < w.heap.size) (hne : k ≠ g) : (sortWorld enc w g off q d' os).heap[k]? = w.heap[k]? := by
  unfold sortWorld
  rw [heap_grow_old _ _ (by simpa using hk)]
  simp [putRow, mapBlock, Sort.ahead, Array.getElem?_modify, Ne.symm hne]
theorem only_sorted : Only (fun k => k = g) w (sortWorld enc w g off q d' os) :=
  ⟨rfl, rfl, rfl, by unfold sortWorld; simp, fun k hk hne => sortWorld_heap k hk hne⟩
theorem below_sorted (h : Below w0.heap.size w0 w) (hg : w0.heap.size ≤ g) : Below w0.heap.size w0 (sortWorld enc w g off q d' os) :=
  h.trans (only_sorted.below h.size fun k hk => by rw [hk]; exact hg)
theorem Mine.sorted (h : Mine w0 w 1 (.slice (some ⟨g, off, none⟩) n c) n (d.toList.map enc)) (h0 : 0 < n) (hs : d'.size = d.size) :
    Mine w0 (sortWorld enc w g off q d' os) 1 (.slice (some ⟨g, off, none⟩) n c) n (d'.toList.map enc) := by
  obtain ⟨hdn, hH, hgl, -⟩ := h.holds h0
  obtain ⟨b, ⟨hl, A, c', heq, h1, h2, h3⟩, hb⟩ := h
  cases heq
  rcases h3 with ⟨_, h4⟩ | ⟨g', off', rfl, heq, hg, h5, h6⟩
  · omega
  · cases heq
    have hsz : g < (putRow enc (Sort.ahead w q) g off d').heap.size := by simpa using hgl
    have hin : ∀ j, j < n → (sortWorld enc w g off q d' os).cell? ⟨g, off + j, none⟩ = some (enc d'[j]!) := fun j hj => by
      unfold sortWorld
      rw [cell?_grow _ _ _ hsz]
      exact cell?_putRow enc _ g off d d' (holds_ahead enc w q g off d hH) hs j (by omega)
    have hout : ∀ j, n ≤ j → (sortWorld enc w g off q d' os).cell? ⟨g, off + j, none⟩ = w.cell? ⟨g, off + j, none⟩ := fun j hj => by
      unfold sortWorld
      rw [cell?_grow _ _ _ hsz, cell?_putRow_other _ _ _ _ _ _ (.inr (.inr (by show off + d'.size ≤ off + j; omega)))]
      rfl
    have hfz : ∀ j, (sortWorld enc w g off q d' os).frozen? ⟨g, off + j, none⟩ = w.frozen? ⟨g, off + j, none⟩ := fun j => by
      unfold sortWorld
      rw [frozen?_grow _ _ _ hsz, frozen?_putRow]
      rfl
    refine ⟨some g, ⟨by simp; omega, _, c, rfl, h1, h2, .inr ⟨g, off, rfl, rfl, by unfold sortWorld; simp; omega, fun j hj => ⟨?_, ?_⟩, fun j hj => ?_⟩⟩, hb⟩
    · by_cases hjn : j < n
      · rw [hin j hjn]; rfl
      · rw [hout j (by omega)]; exact (h5 j hj).1
    · rw [hfz]; exact (h5 j hj).2
    · rw [hin j (by omega)]
      simp [show j < d'.size from by omega]
end
end Go.Proofs.Ytgppjajkhdhcaaa
