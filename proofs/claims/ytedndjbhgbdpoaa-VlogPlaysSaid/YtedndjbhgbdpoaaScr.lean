/- Calls that came in: their kinds, a script of them. -/
import Derived.Test.YtedndjbhgbdpoaaVl
import Derived.Test.YtedndjbhgbdpoaaMem
import Derived.Deep.Slices
import Derived.ChangeArms
namespace Go.Proofs.Ytedndjbhgbdpoaa
open Go.RowKit
structure VAct where
  kind : Int
  frm : Int
  view : Int
  seq : Int
  d : ByteArray
  t : ByteArray
def acells (a : VAct) : List Value := [.int .i64 a.kind, .int .i64 a.frm, .int .i64 a.view, .int .i64 a.seq, .string a.d, .string a.t]
/-- A script: n calls. -/
def Script (w : World) (A : Option Addr) (n : Nat) (Z : Nat → VAct) : Prop := Row w A (n * 6) fun j => (acells (Z (j / 6))).getD (j % 6) (.bool false)
theorem Script.at_ {w : World} {A : Option Addr} {n : Nat} {Z : Nat → VAct} (h : Script w A n Z) {i : Nat} (hi : i < n) : ∃ b o, A = some ⟨b, o, none⟩ := by
  obtain ⟨b, o, e, _⟩ := Row.at_ h (k := i * 6) (by omega)
  exact ⟨b, o, e⟩
theorem Script.cells {w w' : World} {b o n : Nat} {Z : Nat → VAct} (h : Script w (some ⟨b, o, none⟩) n Z) {i : Nat} (hi : i < n) (hb : Below w.heap.size w w') :
    w'.cell? ⟨b, o + i * 6, none⟩ = some (.int .i64 (Z i).kind) ∧ w'.cell? ⟨b, o + i * 6 + 1, none⟩ = some (.int .i64 (Z i).frm) ∧ w'.cell? ⟨b, o + i * 6 + 2, none⟩ = some (.int .i64 (Z i).view) ∧
    w'.cell? ⟨b, o + i * 6 + 3, none⟩ = some (.int .i64 (Z i).seq) ∧ w'.cell? ⟨b, o + i * 6 + 4, none⟩ = some (.string (Z i).d) ∧ w'.cell? ⟨b, o + i * 6 + 5, none⟩ = some (.string (Z i).t) := by
  have each : ∀ k, k < 6 → w'.cell? ⟨b, o + i * 6 + k, none⟩ = some ((acells (Z i)).getD k (.bool false)) := fun k hk => by
    obtain ⟨b', o', e, h1, h2⟩ := Row.at_ h (k := i * 6 + k) (by omega)
    cases e
    rw [show (i * 6 + k) / 6 = i from by omega, show (i * 6 + k) % 6 = k from by omega] at h2
    rw [Nat.add_assoc]
    exact (below_cell hb h1).trans h2
  exact ⟨each 0 (by omega), each 1 (by omega), each 2 (by omega), each 3 (by omega), each 4 (by omega), each 5 (by omega)⟩
section
variable {H : Type} {enc : TypeId × Value → H} {P : Program} {W : World} {base : Nat} {spare : Nat → Bool} {held : Bool}
theorem six_cells {cs : List Value} {a b c d e f : Value} (h0 : (cs.drop 0).take 1 = [a]) (h1 : (cs.drop 1).take 1 = [b]) (h2 : (cs.drop 2).take 1 = [c]) (h3 : (cs.drop 3).take 1 = [d]) (h4 : (cs.drop 4).take 1 = [e]) (h5 : (cs.drop 5).take 1 = [f]) (hl : cs.length = 6) : cs = [a, b, c, d, e, f] := by
  match cs, hl with
  | [_, _, _, _, _, _], _ => simp_all
/-- A call that came in, as its cells read. -/
theorem open_cells {t ti tx : TypeId} {f0 f1 f2 f3 f4 f5 : Field} (ht : P.underlying t = some (.struct #[f0, f1, f2, f3, f4, f5])) (hc : P.cellsOf t = 6)
    (ho : f0.offset = 0 ∧ f1.offset = 1 ∧ f2.offset = 2 ∧ f3.offset = 3 ∧ f4.offset = 4 ∧ f5.offset = 5) (hf : f0.type = ti ∧ f1.type = ti ∧ f2.type = ti ∧ f3.type = ti ∧ f4.type = tx ∧ f5.type = tx) (hi : P.underlying ti = some (.int .i64)) (hci : P.cellsOf ti = 1) (hx : P.underlying tx = some .string) (hcx : P.cellsOf tx = 1)
    {fuel : Nat} {cs : List Value} {x : DataW H × List MemPlace} (h : DataW.trod enc P W base spare held fuel t cs = some x) : ∃ a : VAct, cs = acells a := by
  obtain ⟨xs, n, _, rfl, hl, hlen, hfs⟩ := DataW.trod_struct ht h
  obtain ⟨o0, o1, o2, o3, o4, o5⟩ := ho
  obtain ⟨t0, t1, t2, t3, t4, t5⟩ := hf
  match xs, hlen with
  | [y0, y1, y2, y3, y4, y5], _ =>
    have r0 := hfs 0 f0 rfl
    have r1 := hfs 1 f1 rfl
    have r2 := hfs 2 f2 rfl
    have r3 := hfs 3 f3 rfl
    have r4 := hfs 4 f4 rfl
    have r5 := hfs 5 f5 rfl
    rw [t0, o0, hci] at r0
    rw [t1, o1, hci] at r1
    rw [t2, o2, hci] at r2
    rw [t3, o3, hci] at r3
    rw [t4, o4, hcx] at r4
    rw [t5, o5, hcx] at r5
    obtain ⟨z0, e0, _⟩ := DataW.trod_int hi r0
    obtain ⟨z1, e1, _⟩ := DataW.trod_int hi r1
    obtain ⟨z2, e2, _⟩ := DataW.trod_int hi r2
    obtain ⟨z3, e3, _⟩ := DataW.trod_int hi r3
    obtain ⟨s4, e4, _⟩ := DataW.trod_string hx r4
    obtain ⟨s, e5, _⟩ := DataW.trod_string hx r5
    exact ⟨⟨z0, z1, z2, z3, s4, s⟩, six_cells e0 e1 e2 e3 e4 e5 (by rw [hl, hc])⟩
theorem open_vacts {t e ti tx : TypeId} {f0 f1 f2 f3 f4 f5 : Field} (hs : P.underlying t = some (.slice e)) (ht : P.underlying e = some (.struct #[f0, f1, f2, f3, f4, f5])) (hc : P.cellsOf e = 6)
    (ho : f0.offset = 0 ∧ f1.offset = 1 ∧ f2.offset = 2 ∧ f3.offset = 3 ∧ f4.offset = 4 ∧ f5.offset = 5) (hf : f0.type = ti ∧ f1.type = ti ∧ f2.type = ti ∧ f3.type = ti ∧ f4.type = tx ∧ f5.type = tx) (hi : P.underlying ti = some (.int .i64)) (hci : P.cellsOf ti = 1) (hx : P.underlying tx = some .string) (hcx : P.cellsOf tx = 1)
    {a : Option Addr} {len cap : Nat} {d : DataW H} {ps : List MemPlace} (h : DataW.Trod enc P W base spare held t (.slice a len cap) d ps) : ∃ Z : Nat → VAct, len ≤ cap ∧ cap ≤ maxLen ∧ Script W a len Z := by
  obtain ⟨fuel, hfu⟩ := h
  rcases Deep.open_slice hs hfu with ⟨hcs, _⟩ | ⟨x, l, c, m, n, D, Pl, hcs, _, hl, hm, hmm, _, hxx⟩
  · simp [Value.cells] at hcs
    obtain ⟨rfl, rfl, rfl⟩ := hcs
    exact ⟨fun _ => ⟨0, 0, 0, 0, ⟨#[]⟩, ⟨#[]⟩⟩, Nat.le_refl _, by unfold maxLen; omega, .inl rfl⟩
  · simp [Value.cells] at hcs
    obtain ⟨rfl, rfl, rfl⟩ := hcs
    have hlm : len ≤ m := by rw [hmm]; split <;> omega
    have each : ∀ i, i < len → ∃ z : VAct, ∀ k, k < 6 → W.cell? (x.add (i * 6 + k)) = some ((acells z).getD k (.bool false)) := by
      intro i hi'
      obtain ⟨cs', h1, h2⟩ := hxx i (by omega)
      rw [hc] at h1
      obtain ⟨z, rfl⟩ := open_cells ht hc ho hf hi hci hx hcx h2
      refine ⟨z, fun k hk => ?_⟩
      have hcell := (World.cells?_some h1).2.2 k hk
      have e : (x.add (i * 6)).add k = x.add (i * 6 + k) := by
        unfold Addr.add
        by_cases q : i * 6 = 0
        · simp [q]
        · simp [q]
          by_cases q2 : k = 0
          · simp [q2]
          · simp [q2, Nat.add_assoc]
      rw [e] at hcell
      rw [hcell]
      have hk6 : k < (acells z).length := hk
      rw [List.getD_eq_getElem?_getD, List.getElem?_eq_getElem hk6]; rfl
    refine ⟨fun i => if hi' : i < len then Classical.choose (each i hi') else ⟨0, 0, 0, 0, ⟨#[]⟩, ⟨#[]⟩⟩, hl, hm, Row.of_cells fun j hj => ?_⟩
    have hj6 : j / 6 < len := by omega
    simp only [dif_pos hj6]
    have := Classical.choose_spec (each (j / 6) hj6) (j % 6) (by omega)
    rwa [show j / 6 * 6 + j % 6 = j from by omega] at this
theorem open_vact {t ti tx : TypeId} {f0 f1 f2 f3 f4 f5 : Field} (ht : P.underlying t = some (.struct #[f0, f1, f2, f3, f4, f5])) (hc : P.cellsOf t = 6)
    (ho : f0.offset = 0 ∧ f1.offset = 1 ∧ f2.offset = 2 ∧ f3.offset = 3 ∧ f4.offset = 4 ∧ f5.offset = 5) (hf : f0.type = ti ∧ f1.type = ti ∧ f2.type = ti ∧ f3.type = ti ∧ f4.type = tx ∧ f5.type = tx) (hi : P.underlying ti = some (.int .i64)) (hci : P.cellsOf ti = 1) (hx : P.underlying tx = some .string) (hcx : P.cellsOf tx = 1)
    {cs : Array Value} {d : DataW H} {ps : List MemPlace} (h : DataW.Trod enc P W base spare held t (.agg cs) d ps) : ∃ a : VAct, cs = (acells a).toArray := by
  obtain ⟨fuel, hfu⟩ := h
  obtain ⟨a, ha⟩ := open_cells ht hc ho hf hi hci hx hcx hfu
  exact ⟨a, Array.ext' (by simpa [Value.cells] using ha)⟩
end
end Go.Proofs.Ytedndjbhgbdpoaa
