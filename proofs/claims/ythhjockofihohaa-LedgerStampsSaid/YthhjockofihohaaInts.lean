/- A slice of ints that came in. -/
import Derived.Test.YthhjockofihohaaLedM
import Derived.ChangeSlices
import Derived.SizedLaws
namespace Go.Proofs.Ythhjockofihohaa
open Go.RowKit
def IRow (w : World) (A : Option Addr) (L : List Int) : Prop := Row w A L.length fun j => .int .i64 (L.getD j 0)
theorem IRow.some {w : World} {A : Option Addr} {L : List Int} (h : IRow w A L) {i : Nat} (hi : i < L.length) : ∃ b o, A = some ⟨b, o, none⟩ := by
  obtain ⟨b, o, e, _⟩ := Row.at_ h hi
  exact ⟨b, o, e⟩
theorem open_irow {H : Type} {enc : TypeId × Value → H} {P : Program} {W : World} {base : Nat} {spare : Nat → Bool} {held : Bool} {t e : TypeId} (ht : P.underlying t = some (.slice e)) (he : P.underlying e = some (.int .i64)) (hc : P.cellsOf e = 1) (hby : P.bytesOf e = 8) {a : Option Addr} {len cap : Nat} {d : DataW H} {ps : List MemPlace}
    (h : DataW.Trod enc P W base spare held t (.slice a len cap) d ps) (hw : ∀ n ∈ d.weights P t, n ≤ reachBytes) :
    ∃ L : List Int, L.length = len ∧ len ≤ 17592186044415 ∧ len ≤ cap ∧ cap ≤ maxLen ∧ IRow W a L := by
  obtain ⟨fuel, hf⟩ := h
  rcases Go.ChangeShapes.open_ints ht he hc hf with ⟨hcs, _⟩ | ⟨x, l, c, zs, hcs, _, hl, hm, hz, hx, hcell, _⟩
  · simp [Value.cells] at hcs
    obtain ⟨rfl, rfl, rfl⟩ := hcs
    exact ⟨[], rfl, by omega, Nat.le_refl _, by unfold maxLen; omega, .inl rfl⟩
  · simp [Value.cells] at hcs
    obtain ⟨rfl, rfl, rfl⟩ := hcs
    have hls : len ≤ zs.length := by rw [hz]; split <;> omega
    have hd : d = .slice (Go.ChangeShapes.lits .i64 (zs.take len)) (Go.ChangeShapes.lits .i64 (zs.drop len)) := congrArg Prod.fst hx
    have hb := hw ((zs.take len).length * 8 + (zs.drop len).length * 8) (by
      rw [hd]
      unfold DataW.weights
      rw [ht]
      simp only [hby]
      refine List.mem_cons.2 (.inl ?_)
      simp only [Go.ChangeShapes.lits, List.length_map]
      omega)
    have hlt : (zs.take len).length = len := by rw [List.length_take]; omega
    rw [hlt] at hb
    unfold reachBytes at hb
    refine ⟨zs.take len, hlt, by omega, hl, hm, ?_⟩
    unfold IRow
    rw [hlt]
    refine Row.of_cells fun j hj => ?_
    rw [hcell j (by omega)]
    simp [List.getD_eq_getElem?_getD, List.getElem?_take_of_lt hj]
end Go.Proofs.Ythhjockofihohaa
