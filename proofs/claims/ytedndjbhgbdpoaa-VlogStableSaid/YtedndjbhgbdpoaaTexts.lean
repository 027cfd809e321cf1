/- A slice of texts that came in: its cells, and how long each text may be. -/
import Derived.Test.YtedndjbhgbdpoaaMem
import Derived.SliceStrings
import Derived.SizedLaws
namespace Go.Proofs.Ytedndjbhgbdpoaa
open Go.RowKit
theorem weightsAll_mem {H : Type} {P : Program} {e : TypeId} : ∀ {l : List (DataW H)} {d : DataW H}, d ∈ l → ∀ n ∈ d.weights P e, n ∈ DataW.weightsAll P e l
  | d0 :: l, d, hd, n, hn => by
    unfold DataW.weightsAll
    rcases List.mem_cons.1 hd with rfl | hd
    · exact List.mem_append_left _ hn
    · exact List.mem_append_right _ (weightsAll_mem hd n hn)
theorem open_texts {H : Type} {enc : TypeId × Value → H} {P : Program} {W : World} {base : Nat} {spare : Nat → Bool} {held : Bool} {t e : TypeId} (ht : P.underlying t = some (.slice e)) (he : P.underlying e = some .string) (hc : P.cellsOf e = 1) {a : Option Addr} {len cap : Nat} {d : DataW H} {ps : List MemPlace}
    (h : DataW.Trod enc P W base spare held t (.slice a len cap) d ps) (hw : ∀ n ∈ d.weights P t, n ≤ reachBytes) :
    ∃ Z : Nat → ByteArray, (∀ j, j < len → (Z j).size ≤ 140737488351232) ∧ len ≤ cap ∧ cap ≤ maxLen ∧ Row W a len (fun j => .string (Z j)) := by
  obtain ⟨fuel, hf⟩ := h
  rcases Go.ChangeShapes.open_strings ht he hc hf with ⟨hcs, _⟩ | ⟨x, l, c, ss, hcs, _, hl, hm, hz, hx, hcell, _⟩
  · simp [Value.cells] at hcs
    obtain ⟨rfl, rfl, rfl⟩ := hcs
    exact ⟨fun _ => ByteArray.empty, fun _ _ => by omega, Nat.le_refl _, by unfold maxLen; omega, .inl rfl⟩
  · simp [Value.cells] at hcs
    obtain ⟨rfl, rfl, rfl⟩ := hcs
    have hls : len ≤ ss.length := by rw [hz]; split <;> omega
    refine ⟨fun j => ss.getD j ByteArray.empty, fun j hj => ?_, hl, hm, Row.of_cells fun j hj => hcell j (by omega)⟩
    have hd : d = .slice (Go.ChangeShapes.strs (ss.take len)) (Go.ChangeShapes.strs (ss.drop len)) := congrArg Prod.fst hx
    have hmem : ss.getD j ByteArray.empty ∈ ss.take len := by
      rw [List.getD_eq_getElem?_getD, List.getElem?_eq_getElem (by omega)]
      rw [List.mem_take_iff_getElem]
      exact ⟨j, by omega, rfl⟩
    have hb := hw (ss.getD j ByteArray.empty).data.toList.length (by
      rw [hd]
      unfold DataW.weights
      rw [ht]
      refine List.mem_cons_of_mem _ (List.mem_append_left _ (weightsAll_mem (List.mem_map_of_mem hmem) _ ?_))
      simp [DataW.weights])
    rw [Array.length_toList] at hb
    exact Nat.le_trans hb (by decide)
end Go.Proofs.Ytedndjbhgbdpoaa
