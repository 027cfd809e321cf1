/- Orders in memory: a row of orders; the list of orders that came in. -/
import Derived.Test.YtilbhnloelgpdaaOrd
import Derived.Test.YtilbhnloelgpdaaOwn
import Derived.Deep.Slices
import Derived.ChangeArms
namespace Go.Proofs.Ytilbhnloelgpdaa
open Go.RowKit
def ocell (o : Ord) : List Value := [.int .i64 o.id, .int .i64 o.owner, .int .i64 o.price, .int .i64 o.amount, .int .i64 o.place, .bool o.buys]
def ord0 : Ord := ⟨0, 0, 0, 0, 0, false⟩
def ocells (L : List Ord) : List Value := L.flatMap ocell
theorem ocell_length (o : Ord) : (ocell o).length = 6 := rfl
theorem ocells_length (L : List Ord) : (ocells L).length = L.length * 6 := by
  induction L with
  | nil => rfl
  | cons o l ih => unfold ocells at *; rw [List.flatMap_cons, List.length_append, ih, List.length_cons, ocell_length]; omega
theorem ocells_append (L M : List Ord) : ocells (L ++ M) = ocells L ++ ocells M := by unfold ocells; rw [List.flatMap_append]
theorem ocells_get (L : List Ord) {i j : Nat} (hi : i < L.length) (hj : j < 6) : (ocells L).getD (i * 6 + j) (.bool false) = (ocell (L.getD i ord0)).getD j (.bool false) := by
  induction L generalizing i with
  | nil => simp at hi
  | cons s L ih =>
    have e : ocells (s :: L) = ocell s ++ ocells L := rfl
    rw [e]
    cases i with
    | zero =>
      simp only [List.getD_eq_getElem?_getD, Nat.zero_mul, Nat.zero_add]
      rw [List.getElem?_append_left (by rw [ocell_length]; exact hj)]; rfl
    | succ i =>
      have := ih (i := i) (by simpa using hi)
      rw [show (i + 1) * 6 + j = (i * 6 + j) + 6 from by omega]
      simp only [List.getD_eq_getElem?_getD] at *
      rw [List.getElem?_append_right (by rw [ocell_length]; omega)]
      simpa [ocell] using this
theorem ocells_one (L : List Ord) : ∀ u ∈ ocells L, u.oneCell' = true := by
  intro u hu
  unfold ocells at hu
  obtain ⟨p, _, hs⟩ := List.mem_flatMap.1 hu
  unfold ocell at hs
  simp only [List.mem_cons, List.not_mem_nil, or_false] at hs
  rcases hs with rfl | rfl | rfl | rfl | rfl | rfl <;> rfl
/-- The list L in w, from A on. -/
def ORow (w : World) (A : Option Addr) (L : List Ord) : Prop := Row w A (L.length * 6) fun j => (ocells L).getD j (.bool false)
theorem ORow.below {w w' : World} {A : Option Addr} {L : List Ord} (h : ORow w A L) (hb : Below w.heap.size w w') : ORow w' A L := Row.below h hb
theorem ORow.nil (w : World) (A : Option Addr) : ORow w A [] := .inl rfl
theorem ORow.cells {w : World} {A : Option Addr} {L : List Ord} (h : ORow w A L) {i : Nat} (hi : i < L.length) : ∃ b o, A = some ⟨b, o, none⟩ ∧ ∀ w', Below w.heap.size w w' → ∀ j, j < 6 → w'.cell? ⟨b, o + i * 6 + j, none⟩ = some ((ocell (L.getD i ord0)).getD j (.bool false)) := by
  obtain ⟨b, o, e, _⟩ := Row.at_ h (k := i * 6) (by omega)
  refine ⟨b, o, e, fun w' hb j hj => ?_⟩
  obtain ⟨b', o', e', h1, h2⟩ := Row.at_ h (k := i * 6 + j) (by omega)
  rw [e] at e'; cases e'
  rw [← ocells_get L hi hj, Nat.add_assoc]; exact (below_cell hb h1).trans h2
theorem ORow.six {w w' : World} {b o : Nat} {L : List Ord} (h : ORow w (some ⟨b, o, none⟩) L) {i : Nat} (hi : i < L.length) (hb : Below w.heap.size w w') :
    w'.cell? ⟨b, o + i * 6, none⟩ = some (.int .i64 (L.getD i ord0).id) ∧ w'.cell? ⟨b, o + i * 6 + 1, none⟩ = some (.int .i64 (L.getD i ord0).owner) ∧ w'.cell? ⟨b, o + i * 6 + 2, none⟩ = some (.int .i64 (L.getD i ord0).price) ∧
    w'.cell? ⟨b, o + i * 6 + 3, none⟩ = some (.int .i64 (L.getD i ord0).amount) ∧ w'.cell? ⟨b, o + i * 6 + 4, none⟩ = some (.int .i64 (L.getD i ord0).place) ∧ w'.cell? ⟨b, o + i * 6 + 5, none⟩ = some (.bool (L.getD i ord0).buys) := by
  obtain ⟨b', o', e, h1⟩ := ORow.cells h hi
  cases e
  have each := h1 w' hb
  exact ⟨each 0 (by omega), each 1 (by omega), each 2 (by omega), each 3 (by omega), each 4 (by omega), each 5 (by omega)⟩
theorem ORow.some {w : World} {A : Option Addr} {L : List Ord} (h : ORow w A L) (hl : 0 < L.length) : ∃ b o, A = some ⟨b, o, none⟩ ∧ b < w.heap.size := by
  obtain ⟨b, o, e, h1, _⟩ := Row.at_ h (k := 0) (by omega)
  exact ⟨b, o, e, h1⟩
theorem ORow.take {w : World} {A : Option Addr} {L : List Ord} (h : ORow w A L) (k : Nat) : ORow w A (L.take k) := by
  have hl : (L.take k).length ≤ L.length := by rw [List.length_take]; omega
  have hc : ocells L = ocells (L.take k) ++ ocells (L.drop k) := by rw [← ocells_append, List.take_append_drop]
  rcases h with h | ⟨b, off, h1, h2, h3⟩
  · exact .inl (by omega)
  · refine .inr ⟨b, off, h1, h2, fun j hj => ?_⟩
    have := h3 j (by omega)
    rw [this]
    refine congrArg Option.some ?_
    show (ocells L).getD j _ = (ocells (L.take k)).getD j _
    rw [List.getD_eq_getElem?_getD, List.getD_eq_getElem?_getD, hc, List.getElem?_append_left (by rw [ocells_length]; exact hj)]
theorem Mine.orow {w0 w : World} {A : Option Addr} {c m : Nat} {L : List Ord} (h : Mine w0 w 6 (.slice A m c) m (ocells L)) (hm : L.length = m) : m ≤ c ∧ ORow w A L := by
  obtain ⟨A', c', e, h1, _, h3⟩ := h.row
  cases e
  refine ⟨h1, ?_⟩
  unfold ORow
  rw [hm]; exact h3
section
variable {H : Type} {enc : TypeId × Value → H} {P : Program} {W : World} {base : Nat} {spare : Nat → Bool} {held : Bool}
theorem six_cells {cs : List Value} {a b c d e f : Value} (h0 : (cs.drop 0).take 1 = [a]) (h1 : (cs.drop 1).take 1 = [b]) (h2 : (cs.drop 2).take 1 = [c]) (h3 : (cs.drop 3).take 1 = [d]) (h4 : (cs.drop 4).take 1 = [e]) (h5 : (cs.drop 5).take 1 = [f]) (hl : cs.length = 6) : cs = [a, b, c, d, e, f] := by
  match cs, hl with
  | [_, _, _, _, _, _], _ => simp_all
/-- An order that came in, as its cells read. -/
theorem open_cells {t ti tx : TypeId} {f0 f1 f2 f3 f4 f5 : Field} (ht : P.underlying t = some (.struct #[f0, f1, f2, f3, f4, f5])) (hc : P.cellsOf t = 6)
    (ho : f0.offset = 0 ∧ f1.offset = 1 ∧ f2.offset = 2 ∧ f3.offset = 3 ∧ f4.offset = 4 ∧ f5.offset = 5) (hf : f0.type = ti ∧ f1.type = ti ∧ f2.type = ti ∧ f3.type = ti ∧ f4.type = ti ∧ f5.type = tx) (hi : P.underlying ti = some (.int .i64)) (hci : P.cellsOf ti = 1) (hx : P.underlying tx = some .bool) (hcx : P.cellsOf tx = 1)
    {fuel : Nat} {cs : List Value} {x : DataW H × List MemPlace} (h : DataW.trod enc P W base spare held fuel t cs = some x) : ∃ a : Ord, cs = ocell a := by
  obtain ⟨xs, n, _, rfl, hl, hlen, hfs⟩ := DataW.trod_struct ht h
  obtain ⟨o0, o1, o2, o3, o4, o5⟩ := ho
  obtain ⟨t0, t1, t2, t3, t4, t5⟩ := hf
  match xs, hlen with
  | [y0, y1, y2, y3, y4, y5], _ =>
    have r0 := hfs 0 f0 rfl
    have r1 := hfs 1 f1 rfl
    have r2 := hfs 2 f2 rfl
    have r3 := hfs 3 f3 rfl
    have r4 := hfs 4 f4 rfl
    have r5 := hfs 5 f5 rfl
    rw [t0, o0, hci] at r0
    rw [t1, o1, hci] at r1
    rw [t2, o2, hci] at r2
    rw [t3, o3, hci] at r3
    rw [t4, o4, hci] at r4
    rw [t5, o5, hcx] at r5
    obtain ⟨z0, e0, _⟩ := DataW.trod_int hi r0
    obtain ⟨z1, e1, _⟩ := DataW.trod_int hi r1
    obtain ⟨z2, e2, _⟩ := DataW.trod_int hi r2
    obtain ⟨z3, e3, _⟩ := DataW.trod_int hi r3
    obtain ⟨z4, e4, _⟩ := DataW.trod_int hi r4
    obtain ⟨s, e5, _⟩ := DataW.trod_bool hx r5
    exact ⟨⟨z0, z1, z2, z3, z4, s⟩, six_cells e0 e1 e2 e3 e4 e5 (by rw [hl, hc])⟩
theorem open_orders {t e ti tx : TypeId} {f0 f1 f2 f3 f4 f5 : Field} (hs : P.underlying t = some (.slice e)) (ht : P.underlying e = some (.struct #[f0, f1, f2, f3, f4, f5])) (hc : P.cellsOf e = 6)
    (ho : f0.offset = 0 ∧ f1.offset = 1 ∧ f2.offset = 2 ∧ f3.offset = 3 ∧ f4.offset = 4 ∧ f5.offset = 5) (hf : f0.type = ti ∧ f1.type = ti ∧ f2.type = ti ∧ f3.type = ti ∧ f4.type = ti ∧ f5.type = tx) (hi : P.underlying ti = some (.int .i64)) (hci : P.cellsOf ti = 1) (hx : P.underlying tx = some .bool) (hcx : P.cellsOf tx = 1)
    {a : Option Addr} {len cap : Nat} {d : DataW H} {ps : List MemPlace} (h : DataW.Trod enc P W base spare held t (.slice a len cap) d ps) : ∃ L : List Ord, L.length = len ∧ len ≤ cap ∧ cap ≤ maxLen ∧ ORow W a L := by
  obtain ⟨fuel, hfu⟩ := h
  rcases Deep.open_slice hs hfu with ⟨hcs, _⟩ | ⟨x, l, c, m, n, D, Pl, hcs, _, hl, hm, hmm, _, hxx⟩
  · simp [Value.cells] at hcs
    obtain ⟨rfl, rfl, rfl⟩ := hcs
    exact ⟨[], rfl, Nat.le_refl _, by unfold maxLen; omega, ORow.nil _ _⟩
  · simp [Value.cells] at hcs
    obtain ⟨rfl, rfl, rfl⟩ := hcs
    have hlm : len ≤ m := by rw [hmm]; split <;> omega
    have each : ∀ i, i < len → ∃ z : Ord, ∀ k, k < 6 → W.cell? (x.add (i * 6 + k)) = some ((ocell z).getD k (.bool false)) := by
      intro i hi'
      obtain ⟨cs', h1, h2⟩ := hxx i (by omega)
      rw [hc] at h1
      obtain ⟨z, rfl⟩ := open_cells ht hc ho hf hi hci hx hcx h2
      refine ⟨z, fun k hk => ?_⟩
      have hcell := (World.cells?_some h1).2.2 k hk
      have e : (x.add (i * 6)).add k = x.add (i * 6 + k) := by
        unfold Addr.add
        by_cases q : i * 6 = 0
        · simp [q]
        · simp [q]
          by_cases q2 : k = 0
          · simp [q2]
          · simp [q2, Nat.add_assoc]
      rw [e] at hcell
      rw [hcell]
      have hk6 : k < (ocell z).length := hk
      rw [List.getD_eq_getElem?_getD, List.getElem?_eq_getElem hk6]; rfl
    refine ⟨List.ofFn fun i : Fin len => Classical.choose (each i i.2), by simp, hl, hm, ?_⟩
    refine Row.of_cells fun j hj => ?_
    rw [List.length_ofFn] at hj
    have hj6 : j / 6 < len := by omega
    have := Classical.choose_spec (each (j / 6) hj6) (j % 6) (by omega)
    rw [show j / 6 * 6 + j % 6 = j from by omega] at this
    rw [this]
    congr 1
    have hg := ocells_get (List.ofFn fun i : Fin len => Classical.choose (each i i.2)) (i := j / 6) (j := j % 6) (by simpa using hj6) (by omega)
    rw [show j / 6 * 6 + j % 6 = j from by omega] at hg
    rw [hg]
    congr 1
    rw [List.getD_eq_getElem?_getD, List.getElem?_ofFn, dif_pos hj6]; rfl
end
end Go.Proofs.Ytilbhnloelgpdaa
