/- A block that is known whole: what of it stays over draws, new blocks, stores elsewhere and into it. -/
import Derived.Test.YtilbhnloelgpdaaMem
import Derived.Laws.Tables
import Derived.Deep.WholeRow
namespace Go.Proofs.Ytilbhnloelgpdaa
open Go.RowKit

/-- Block g is just these cells of type t; none is frozen. -/
def Blk (w : World) (g : Nat) (t : TypeId) (cs : Array Value) : Prop := w.heap[g]? = some (.cells cs t (0, 0))

section
variable {w w' : World} {g : Nat} {t : TypeId} {cs : Array Value}
theorem Blk.lt (h : Blk w g t cs) : g < w.heap.size := by
  unfold Blk at h
  exact (Array.getElem?_eq_some_iff.1 h).1
theorem Blk.cell (h : Blk w g t cs) (j : Nat) : w.cell? ⟨g, j, none⟩ = cs[j]? := cell_of_row w g j cs t (0, 0) h
theorem Blk.frozen (h : Blk w g t cs) (j : Nat) : w.frozen? ⟨g, j, none⟩ = false := frozen_of_row w g j cs t h
theorem Blk.new (w : World) (t : TypeId) (cs : Array Value) : Blk (w.alloc (.cells cs t)) w.heap.size t cs := heap_alloc_new w _
theorem Blk.alloc (h : Blk w g t cs) (o : Obj) : Blk (w.alloc o) g t cs := by
  unfold Blk at h ⊢
  rw [heap_alloc_old w o g (Blk.lt h)]; exact h
theorem Blk.drewN (h : Blk w g t cs) (n : Nat) : Blk (w.drewN n) g t cs := h
theorem Blk.drew (h : Blk w g t cs) : Blk w.drew g t cs := h
theorem Blk.set_ (h : Blk w g t cs) (j : Nat) (v : Value) : Blk (w.setCell ⟨g, j, none⟩ v) g t (cs.setIfInBounds j v) := by
  unfold Blk at h ⊢
  simp [World.setCell, Array.getElem?_modify, h]
theorem Blk.far (h : Blk w g t cs) {b j : Nat} (hne : g ≠ b) (v : Value) : Blk (w.setCell ⟨b, j, none⟩ v) g t cs := by
  unfold Blk at h ⊢
  rw [heap_setCell_other w ⟨b, j, none⟩ g v hne]; exact h
theorem Blk.below {B : Nat} (h : Blk w g t cs) (hb : Below B w w') (hg : g < B) : Blk w' g t cs := by
  unfold Blk at h ⊢
  rw [hb.block g hg]; exact h
theorem Blk.row (h : Blk w g t cs) (new : Array Value) : Blk (w.setRow g new) g t new := by
  unfold Blk at h ⊢
  simp [World.setRow, Array.getElem?_modify, h]
theorem Blk.row_far (h : Blk w g t cs) {b : Nat} (hne : b ≠ g) (new : Array Value) : Blk (w.setRow b new) g t cs := by
  unfold Blk at h ⊢
  simp [World.setRow, Array.getElem?_modify, h, hne]
theorem Blk.toRow (h : Blk w g t cs) : Row w (some ⟨g, 0, none⟩) cs.size (fun j => cs.getD j (.bool false)) := by
  refine .inr ⟨g, 0, rfl, h.lt, fun j hj => ?_⟩
  rw [Nat.zero_add, h.cell j]
  simp [Array.getElem?_eq_getElem hj]
end
theorem below_setRow {B : Nat} {w w1 : World} (h : Below B w w1) {g : Nat} (hg : B ≤ g) (new : Array Value) : Below B w (w1.setRow g new) :=
  ⟨h.os, h.tape, h.output, by simpa using h.size, fun b hb => by
    rw [← h.block b hb]
    simp [World.setRow, Array.getElem?_modify, show g ≠ b from by omega]⟩
end Go.Proofs.Ytilbhnloelgpdaa
