/- Rounds of four demands that came in, opened cell by cell. -/
import Derived.Test.YtccmafmeblojpaaClockClosesW
import Derived.OpenShut
namespace Go.Proofs.Ytccmafmeblojpaa
open Go.RowKit
theorem at_of_take {cs : List Value} {k : Nat} {a : Value} (h : (cs.drop k).take 1 = [a]) : cs[k]? = some a := by
  have : (cs.drop k)[0]? = some a := by
    rw [← List.getElem?_take_of_lt (show 0 < 1 by omega), h]; rfl
  rw [List.getElem?_drop] at this
  simpa using this
theorem open_rounds {H : Type} {enc : TypeId × Value → H} {P : Program} {W : World} {base : Nat} {spare : Nat → Bool} {held : Bool} {t e ti : TypeId} (ht : P.underlying t = some (.slice e)) (he : P.underlying e = some (.array 4 ti)) (hc : P.cellsOf e = 4)
    (hi : P.underlying ti = some (.int .i64)) (hci : P.cellsOf ti = 1) {a : Option Addr} {len cap : Nat} {d : DataW H} {ps : List MemPlace}
    (h : DataW.Trod enc P W base spare held t (.slice a len cap) d ps) : ∃ Z : Nat → Int, len ≤ cap ∧ cap ≤ maxLen ∧ Rounds W a len Z := by
  obtain ⟨fuel, hfu⟩ := h
  rcases Deep.open_slice ht hfu with ⟨hcs, _⟩ | ⟨x, l, c, m, n, D, Pl, hcs, _, hl, hm, hmm, _, hx⟩
  · simp [Value.cells] at hcs
    obtain ⟨rfl, rfl, rfl⟩ := hcs
    exact ⟨fun _ => 0, Nat.le_refl _, by unfold maxLen; omega, .inl rfl⟩
  · simp [Value.cells] at hcs
    obtain ⟨rfl, rfl, rfl⟩ := hcs
    have hlm : len ≤ m := by rw [hmm]; split <;> omega
    have each : ∀ j, j < len * 4 → ∃ z : Int, W.cell? (x.add j) = some (.int .i64 z) := by
      intro j hj
      obtain ⟨cs', h1, h2⟩ := hx (j / 4) (by omega)
      rw [hc] at h1
      obtain ⟨xs, m', _, _, hlen, hxl, hel⟩ := DataW.trod_array he h2
      have hk4 : j % 4 < 4 := Nat.mod_lt _ (by omega)
      have r := hel (j % 4) hk4
      rw [hci, Nat.mul_one, List.getElem?_eq_getElem (by omega)] at r
      obtain ⟨z, e0, _⟩ := DataW.trod_int hi r
      have g := at_of_take e0
      have hcell := (World.cells?_some h1).2.2 (j % 4) hk4
      refine ⟨z, ?_⟩
      rw [← g, ← hcell]
      congr 1
      have hj' : j = j / 4 * 4 + j % 4 := by omega
      unfold Addr.add
      by_cases q : j / 4 * 4 = 0
      · have : j = j % 4 := by omega
        simp [q, ← this]
      · by_cases q2 : j % 4 = 0
        · have : j = j / 4 * 4 := by omega
          have q0 : ¬ j = 0 := by omega
          simp [q2, ← this, q0]
        · have q0 : ¬ j = 0 := by omega
          simp [q, q2, q0]
          omega
    refine ⟨fun j => if hj : j < len * 4 then Classical.choose (each j hj) else 0, hl, hm, Row.of_cells fun j hj => ?_⟩
    simp only [dif_pos hj]
    exact Classical.choose_spec (each j hj)
end Go.Proofs.Ytccmafmeblojpaa
