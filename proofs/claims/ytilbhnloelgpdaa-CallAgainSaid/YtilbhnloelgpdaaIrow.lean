/- A row of ints. -/
import Derived.Test.YtilbhnloelgpdaaAwake
import Derived.Test.YtilbhnloelgpdaaOwnK
namespace Go.Proofs.Ytilbhnloelgpdaa
open Go.RowKit
set_option linter.unusedVariables false
set_option linter.unusedSimpArgs false
def icells (l : List Int) : List Value := l.map (Value.int .i64)
theorem icells_get (l : List Int) {i : Nat} (h : i < l.length) : (icells l)[i]? = some (.int .i64 (l.getD i 0)) := by
  simp [icells, List.getD_eq_getElem?_getD, h]
theorem info_int : (Try.prog.info? 3).map (fun i => (i.zero, i.size, i.bytes)) = some (some (.int .i64 0), 1, 8) := by kernel_rfl
theorem icells_append (a b : List Int) : icells (a ++ b) = icells a ++ icells b := by simp [icells]
def IRow (w : World) (A : Option Addr) (L : List Int) : Prop := Row w A L.length fun j => .int .i64 (L.getD j 0)
theorem IRow.cell {w : World} {b o : Nat} {L : List Int} (h : IRow w (some ⟨b, o, none⟩) L) {i : Nat} (hi : i < L.length) : w.cell? ⟨b, o + i, none⟩ = some (.int .i64 (L.getD i 0)) := by
  obtain ⟨b', o', e, h1, h2⟩ := Row.at_ h hi
  cases e; exact h2
theorem IRow.some {w : World} {A : Option Addr} {L : List Int} (h : IRow w A L) {i : Nat} (hi : i < L.length) : ∃ b o, A = some ⟨b, o, none⟩ := by
  obtain ⟨b, o, e, _⟩ := Row.at_ h hi
  exact ⟨b, o, e⟩
theorem IRow.below {w w' : World} {A : Option Addr} {L : List Int} (h : IRow w A L) (hb : Below w.heap.size w w') : IRow w' A L := Row.below h hb
theorem Mine.irow {w0 w : World} {A : Option Addr} {c n : Nat} {L : List Int} (h : Mine w0 w 1 (.slice A n c) n (icells L)) : IRow w A L := by
  have hl := h.len
  simp only [icells, List.length_map, Nat.mul_one] at hl
  obtain ⟨A', c', e, h1, h2, h3⟩ := h.row
  cases e
  unfold IRow
  rw [Nat.mul_one, ← hl] at h3
  refine h3.of_eq fun j hj => ?_
  rw [List.getD_eq_getElem?_getD, icells_get L hj]; rfl
end Go.Proofs.Ytilbhnloelgpdaa
