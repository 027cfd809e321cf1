/- An argument that is an array of four numbers, opened. -/
import Derived.Test.YtccmafmeblojpaaClockPlaysW
import Derived.Test.YtccmafmeblojpaaActs
import Derived.OpenShut
namespace Go.Proofs.Ytccmafmeblojpaa
open Go.RowKit
theorem first_of_take {cs : List Value} {k : Nat} {a : Value} (h : (cs.drop k).take 1 = [a]) : cs[k]? = some a := by
  have : (cs.drop k)[0]? = some a := by
    rw [← List.getElem?_take_of_lt (show 0 < 1 by omega), h]; rfl
  rw [List.getElem?_drop] at this
  simpa using this
theorem okWide_arr4 {P : Program} {w : World} {r : Reach} {base : Nat} {t ti : TypeId} {v : Value} (ht : P.underlying t = some (.array 4 ti)) (h : Value.okWide P w r base t v) : ∃ cs, v = .agg cs := by
  simp only [Value.okWide, ht] at h
  obtain ⟨cs, h1, _⟩ := h
  exact ⟨cs, h1⟩
theorem open_arr4 {H : Type} {enc : TypeId × Value → H} {P : Program} {W : World} {base : Nat} {spare : Nat → Bool} {held : Bool} {t ti : TypeId} (ht : P.underlying t = some (.array 4 ti)) (hc : P.cellsOf t = 4)
    (hi : P.underlying ti = some (.int .i64)) (hci : P.cellsOf ti = 1) {cs : Array Value} {d : DataW H} {ps : List MemPlace}
    (h : DataW.Trod enc P W base spare held t (.agg cs) d ps) : ∃ a b c e : Int, cs = #[.int .i64 a, .int .i64 b, .int .i64 c, .int .i64 e] := by
  obtain ⟨fuel, hfu⟩ := h
  obtain ⟨xs, m', _, _, hlen, hxl, hel⟩ := DataW.trod_array ht hfu
  rw [hc] at hlen
  simp only [Value.cells] at hlen hel
  have each : ∀ k, k < 4 → ∃ z : Int, cs.toList[k]? = some (.int .i64 z) := fun k hk => by
    have r := hel k hk
    rw [hci, Nat.mul_one, List.getElem?_eq_getElem (by omega)] at r
    obtain ⟨z, e0, _⟩ := DataW.trod_int hi r
    exact ⟨z, first_of_take e0⟩
  obtain ⟨a, ha⟩ := each 0 (by omega)
  obtain ⟨b, hb⟩ := each 1 (by omega)
  obtain ⟨c, hc'⟩ := each 2 (by omega)
  obtain ⟨e, he⟩ := each 3 (by omega)
  refine ⟨a, b, c, e, Array.ext' ?_⟩
  show cs.toList = [.int .i64 a, .int .i64 b, .int .i64 c, .int .i64 e]
  have hl : cs.toList.length = 4 := by simpa using hlen
  match hcs : cs.toList, hl with
  | [p, q, r, s], _ =>
    rw [hcs] at ha hb hc' he
    simp at ha hb hc' he
    rw [ha, hb, hc', he]
end Go.Proofs.Ytccmafmeblojpaa
