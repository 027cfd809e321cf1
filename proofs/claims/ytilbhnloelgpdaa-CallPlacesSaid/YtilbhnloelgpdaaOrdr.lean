/- A list of orders that came in, with its bytes bounded. -/
import Derived.Test.YtilbhnloelgpdaaAwake
namespace Go.Proofs.Ytilbhnloelgpdaa
open Go.RowKit
set_option linter.unusedVariables false
set_option linter.unusedSimpArgs false
section
variable {H : Type} {enc : TypeId × Value → H} {P : Program} {W : World} {base : Nat} {spare : Nat → Bool} {held : Bool}
theorem open_ordersw {t e ti tx : TypeId} {f0 f1 f2 f3 f4 f5 : Field} (hs : P.underlying t = some (.slice e)) (ht : P.underlying e = some (.struct #[f0, f1, f2, f3, f4, f5])) (hc : P.cellsOf e = 6)
    (ho : f0.offset = 0 ∧ f1.offset = 1 ∧ f2.offset = 2 ∧ f3.offset = 3 ∧ f4.offset = 4 ∧ f5.offset = 5) (hf : f0.type = ti ∧ f1.type = ti ∧ f2.type = ti ∧ f3.type = ti ∧ f4.type = ti ∧ f5.type = tx) (hi : P.underlying ti = some (.int .i64)) (hci : P.cellsOf ti = 1) (hx : P.underlying tx = some .bool) (hcx : P.cellsOf tx = 1) (hby : P.bytesOf e = 48)
    {a : Option Addr} {len cap : Nat} {d : DataW H} {ps : List MemPlace} (h : DataW.Trod enc P W base spare held t (.slice a len cap) d ps) (hw : ∀ n ∈ d.weights P t, n ≤ reachBytes) : ∃ L : List Ord, L.length = len ∧ len * 48 ≤ 140737488351232 ∧ len ≤ cap ∧ cap ≤ maxLen ∧ ORow W a L := by
  obtain ⟨L, h1, h2, h3, h4⟩ := open_orders hs ht hc ho hf hi hci hx hcx h
  refine ⟨L, h1, ?_, h2, h3, h4⟩
  obtain ⟨fuel, hfu⟩ := h
  rcases Deep.open_slice hs hfu with ⟨hcs, _⟩ | ⟨x, l, c, m, n, D, Pl, hcs, _, hl, hm, hmm, hd, _⟩
  · simp [Value.cells] at hcs
    obtain ⟨rfl, rfl, rfl⟩ := hcs
    omega
  · simp [Value.cells] at hcs
    obtain ⟨rfl, rfl, rfl⟩ := hcs
    have hlm : len ≤ m := by rw [hmm]; split <;> omega
    have hb := hw (m * 48) (by
      have hd1 : d = _ := congrArg Prod.fst hd
      rw [hd1]
      unfold DataW.weights
      rw [hs]
      simp only [hby]
      refine List.mem_cons.2 (.inl ?_)
      simp only [List.length_map, List.length_range]
      congr 1
      omega)
    unfold reachBytes at hb
    omega
end
end Go.Proofs.Ytilbhnloelgpdaa
