/- A script of calls that came in: each a number and an order. -/
import Derived.Test.YtilbhnloelgpdaaBw2
namespace Go.Proofs.Ytilbhnloelgpdaa
open Go.RowKit
set_option linter.unusedVariables false
set_option linter.unusedSimpArgs false
structure SAct where
  kind : Int
  o : Ord
def sact0 : SAct := ⟨0, ord0⟩
def scell (a : SAct) : List Value := .int .i64 a.kind :: ocell a.o
def scells (L : List SAct) : List Value := L.flatMap scell
theorem scell_length (a : SAct) : (scell a).length = 7 := rfl
theorem scells_length (L : List SAct) : (scells L).length = L.length * 7 := by
  induction L with
  | nil => rfl
  | cons o l ih => unfold scells at *; rw [List.flatMap_cons, List.length_append, ih, List.length_cons, scell_length]; omega
theorem scells_get (L : List SAct) {i j : Nat} (hi : i < L.length) (hj : j < 7) : (scells L).getD (i * 7 + j) (.bool false) = (scell (L.getD i sact0)).getD j (.bool false) := by
  induction L generalizing i with
  | nil => simp at hi
  | cons s L ih =>
    have e : scells (s :: L) = scell s ++ scells L := rfl
    rw [e]
    cases i with
    | zero =>
      simp only [List.getD_eq_getElem?_getD, Nat.zero_mul, Nat.zero_add]
      rw [List.getElem?_append_left (by rw [scell_length]; exact hj)]; rfl
    | succ i =>
      have := ih (i := i) (by simpa using hi)
      rw [show (i + 1) * 7 + j = (i * 7 + j) + 7 from by omega]
      simp only [List.getD_eq_getElem?_getD] at *
      rw [List.getElem?_append_right (by rw [scell_length]; omega)]
      simpa [scell, ocell] using this
/-- The script L in w, from A on. -/
def SRow (w : World) (A : Option Addr) (L : List SAct) : Prop := Row w A (L.length * 7) fun j => (scells L).getD j (.bool false)
theorem SRow.below {w w' : World} {A : Option Addr} {L : List SAct} (h : SRow w A L) (hb : Below w.heap.size w w') : SRow w' A L := Row.below h hb
theorem SRow.cells {w : World} {A : Option Addr} {L : List SAct} (h : SRow w A L) {i : Nat} (hi : i < L.length) : ∃ b o, A = some ⟨b, o, none⟩ ∧ ∀ w', Below w.heap.size w w' → ∀ j, j < 7 → w'.cell? ⟨b, o + i * 7 + j, none⟩ = some ((scell (L.getD i sact0)).getD j (.bool false)) := by
  obtain ⟨b, o, e, _⟩ := Row.at_ h (k := i * 7) (by omega)
  refine ⟨b, o, e, fun w' hb j hj => ?_⟩
  obtain ⟨b', o', e', h1, h2⟩ := Row.at_ h (k := i * 7 + j) (by omega)
  rw [e] at e'; cases e'
  rw [← scells_get L hi hj, Nat.add_assoc]; exact (below_cell hb h1).trans h2
theorem SRow.seven {w w' : World} {b o : Nat} {L : List SAct} (h : SRow w (some ⟨b, o, none⟩) L) {i : Nat} (hi : i < L.length) (hb : Below w.heap.size w w') :
    w'.cell? ⟨b, o + i * 7, none⟩ = some (.int .i64 (L.getD i sact0).kind) ∧ w'.cell? ⟨b, o + i * 7 + 1, none⟩ = some (.int .i64 (L.getD i sact0).o.id) ∧ w'.cell? ⟨b, o + i * 7 + 2, none⟩ = some (.int .i64 (L.getD i sact0).o.owner) ∧ w'.cell? ⟨b, o + i * 7 + 3, none⟩ = some (.int .i64 (L.getD i sact0).o.price) ∧
    w'.cell? ⟨b, o + i * 7 + 4, none⟩ = some (.int .i64 (L.getD i sact0).o.amount) ∧ w'.cell? ⟨b, o + i * 7 + 5, none⟩ = some (.int .i64 (L.getD i sact0).o.place) ∧ w'.cell? ⟨b, o + i * 7 + 6, none⟩ = some (.bool (L.getD i sact0).o.buys) := by
  obtain ⟨b', o', e, h1⟩ := SRow.cells h hi
  cases e
  have each := h1 w' hb
  exact ⟨each 0 (by omega), each 1 (by omega), each 2 (by omega), each 3 (by omega), each 4 (by omega), each 5 (by omega), each 6 (by omega)⟩
theorem SRow.take {w : World} {A : Option Addr} {L : List SAct} (h : SRow w A L) (k : Nat) : SRow w A (L.take k) := by
  have hl : (L.take k).length ≤ L.length := by rw [List.length_take]; omega
  have hc : scells L = scells (L.take k) ++ scells (L.drop k) := by unfold scells; rw [← List.flatMap_append, List.take_append_drop]
  rcases h with h | ⟨b, off, h1, h2, h3⟩
  · exact .inl (by omega)
  · refine .inr ⟨b, off, h1, h2, fun j hj => ?_⟩
    have := h3 j (by omega)
    rw [this]
    refine congrArg Option.some ?_
    show (scells L).getD j _ = (scells (L.take k)).getD j _
    rw [List.getD_eq_getElem?_getD, List.getD_eq_getElem?_getD, hc, List.getElem?_append_left (by rw [scells_length]; exact hj)]
section
variable {H : Type} {enc : TypeId × Value → H} {P : Program} {W : World} {base : Nat} {spare : Nat → Bool} {held : Bool}
theorem open_scells {t te ti tx : TypeId} {g0 g1 f0 f1 f2 f3 f4 f5 : Field} (hs : P.underlying t = some (.struct #[g0, g1])) (hc7 : P.cellsOf t = 7) (hg : g0.offset = 0 ∧ g1.offset = 1 ∧ g0.type = ti ∧ g1.type = te)
    (ht : P.underlying te = some (.struct #[f0, f1, f2, f3, f4, f5])) (hc : P.cellsOf te = 6)
    (ho : f0.offset = 0 ∧ f1.offset = 1 ∧ f2.offset = 2 ∧ f3.offset = 3 ∧ f4.offset = 4 ∧ f5.offset = 5) (hf : f0.type = ti ∧ f1.type = ti ∧ f2.type = ti ∧ f3.type = ti ∧ f4.type = ti ∧ f5.type = tx) (hi : P.underlying ti = some (.int .i64)) (hci : P.cellsOf ti = 1) (hx : P.underlying tx = some .bool) (hcx : P.cellsOf tx = 1)
    {fuel : Nat} {cs : List Value} {x : DataW H × List MemPlace} (h : DataW.trod enc P W base spare held fuel t cs = some x) : ∃ a : SAct, cs = scell a := by
  obtain ⟨xs, n, _, rfl, hl, hlen, hfs⟩ := DataW.trod_struct hs h
  obtain ⟨o0, o1, t0, t1⟩ := hg
  match xs, hlen with
  | [y0, y1], _ =>
    have r0 := hfs 0 g0 rfl
    have r1 := hfs 1 g1 rfl
    rw [t0, o0, hci] at r0
    rw [t1, o1, hc] at r1
    obtain ⟨z0, e0, _⟩ := DataW.trod_int hi r0
    obtain ⟨a, e1⟩ := open_cells ht hc ho hf hi hci hx hcx r1
    refine ⟨⟨z0, a⟩, ?_⟩
    rw [hc7] at hl
    have e2 : cs = (cs.drop 0).take 1 ++ (cs.drop 1).take 6 := by
      rw [List.drop_zero, List.take_of_length_le (l := cs.drop 1) (by rw [List.length_drop]; omega), List.take_append_drop]
    rw [e2, e0, e1]; rfl
theorem open_sacts {u t te ti tx : TypeId} {g0 g1 f0 f1 f2 f3 f4 f5 : Field} (hu : P.underlying u = some (.slice t)) (hs : P.underlying t = some (.struct #[g0, g1])) (hc7 : P.cellsOf t = 7) (hg : g0.offset = 0 ∧ g1.offset = 1 ∧ g0.type = ti ∧ g1.type = te)
    (ht : P.underlying te = some (.struct #[f0, f1, f2, f3, f4, f5])) (hc : P.cellsOf te = 6)
    (ho : f0.offset = 0 ∧ f1.offset = 1 ∧ f2.offset = 2 ∧ f3.offset = 3 ∧ f4.offset = 4 ∧ f5.offset = 5) (hf : f0.type = ti ∧ f1.type = ti ∧ f2.type = ti ∧ f3.type = ti ∧ f4.type = ti ∧ f5.type = tx) (hi : P.underlying ti = some (.int .i64)) (hci : P.cellsOf ti = 1) (hx : P.underlying tx = some .bool) (hcx : P.cellsOf tx = 1)
    {a : Option Addr} {len cap : Nat} {d : DataW H} {ps : List MemPlace} (h : DataW.Trod enc P W base spare held u (.slice a len cap) d ps) : ∃ L : List SAct, L.length = len ∧ len ≤ cap ∧ cap ≤ maxLen ∧ SRow W a L := by
  obtain ⟨fuel, hfu⟩ := h
  rcases Deep.open_slice hu hfu with ⟨hcs, _⟩ | ⟨x, l, c, m, n, D, Pl, hcs, _, hl, hm, hmm, _, hxx⟩
  · simp [Value.cells] at hcs
    obtain ⟨rfl, rfl, rfl⟩ := hcs
    exact ⟨[], rfl, Nat.le_refl _, by unfold maxLen; omega, .inl rfl⟩
  · simp [Value.cells] at hcs
    obtain ⟨rfl, rfl, rfl⟩ := hcs
    have hlm : len ≤ m := by rw [hmm]; split <;> omega
    have each : ∀ i, i < len → ∃ z : SAct, ∀ k, k < 7 → W.cell? (x.add (i * 7 + k)) = some ((scell z).getD k (.bool false)) := by
      intro i hi'
      obtain ⟨cs', h1, h2⟩ := hxx i (by omega)
      rw [hc7] at h1
      obtain ⟨z, rfl⟩ := open_scells hs hc7 hg ht hc ho hf hi hci hx hcx h2
      refine ⟨z, fun k hk => ?_⟩
      have hcell := (World.cells?_some h1).2.2 k hk
      have e : (x.add (i * 7)).add k = x.add (i * 7 + k) := by
        unfold Addr.add
        by_cases q : i * 7 = 0
        · simp [q]
        · simp [q]
          by_cases q2 : k = 0
          · simp [q2]
          · simp [q2, Nat.add_assoc]
      rw [e] at hcell
      rw [hcell]
      have hk7 : k < (scell z).length := hk
      rw [List.getD_eq_getElem?_getD, List.getElem?_eq_getElem hk7]; rfl
    refine ⟨List.ofFn fun i : Fin len => Classical.choose (each i i.2), by simp, hl, hm, ?_⟩
    refine Row.of_cells fun j hj => ?_
    rw [List.length_ofFn] at hj
    have hj7 : j / 7 < len := by omega
    have := Classical.choose_spec (each (j / 7) hj7) (j % 7) (by omega)
    rw [show j / 7 * 7 + j % 7 = j from by omega] at this
    rw [this]
    congr 1
    have hgg := scells_get (List.ofFn fun i : Fin len => Classical.choose (each i i.2)) (i := j / 7) (j := j % 7) (by simpa using hj7) (by omega)
    rw [show j / 7 * 7 + j % 7 = j from by omega] at hgg
    rw [hgg]
    congr 1
    rw [List.getD_eq_getElem?_getD, List.getElem?_ofFn, dif_pos hj7]; rfl
end
end Go.Proofs.Ytilbhnloelgpdaa
