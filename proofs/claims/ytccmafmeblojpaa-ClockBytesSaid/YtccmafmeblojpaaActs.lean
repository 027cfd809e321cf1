/- A script of acts that came in, opened cell by cell. -/
import Derived.Test.YtccmafmeblojpaaBegun
import Derived.Deep.Strs
import Derived.ChangeArms
namespace Go.Proofs.Ytccmafmeblojpaa
open Go.RowKit
theorem one_of_three {cs : List Value} {a b c : Value} (h0 : (cs.drop 0).take 1 = [a]) (h1 : (cs.drop 1).take 1 = [b]) (h2 : (cs.drop 2).take 1 = [c]) : cs[0]? = some a ∧ cs[1]? = some b ∧ cs[2]? = some c := by
  match cs, h0, h1, h2 with
  | [], h0, _, _ => simp at h0
  | [_], _, h1, _ => simp at h1
  | [_, _], _, _, h2 => simp at h2
  | _ :: _ :: _ :: _, h0, h1, h2 => simp_all
theorem open_acts {H : Type} {enc : TypeId × Value → H} {P : Program} {W : World} {base : Nat} {spare : Nat → Bool} {held : Bool} {t e ti : TypeId} {f0 f1 f2 : Field} (ht : P.underlying t = some (.slice e)) (he : P.underlying e = some (.struct #[f0, f1, f2])) (hc : P.cellsOf e = 3)
    (ho : f0.offset = 0 ∧ f1.offset = 1 ∧ f2.offset = 2) (hf : f0.type = ti ∧ f1.type = ti ∧ f2.type = ti) (hi : P.underlying ti = some (.int .i64)) (hci : P.cellsOf ti = 1) {a : Option Addr} {len cap : Nat} {d : DataW H} {ps : List MemPlace}
    (h : DataW.Trod enc P W base spare held t (.slice a len cap) d ps) : ∃ Z : Nat → Int, len ≤ cap ∧ cap ≤ maxLen ∧ Script W a len Z := by
  obtain ⟨fuel, hfu⟩ := h
  obtain ⟨o0, o1, o2⟩ := ho
  obtain ⟨t0, t1, t2⟩ := hf
  rcases Deep.open_slice ht hfu with ⟨hcs, _⟩ | ⟨x, l, c, m, n, D, Pl, hcs, _, hl, hm, hmm, _, hx⟩
  · simp [Value.cells] at hcs
    obtain ⟨rfl, rfl, rfl⟩ := hcs
    exact ⟨fun _ => 0, Nat.le_refl _, by unfold maxLen; omega, .inl rfl⟩
  · simp [Value.cells] at hcs
    obtain ⟨rfl, rfl, rfl⟩ := hcs
    have hlm : len ≤ m := by rw [hmm]; split <;> omega
    have each : ∀ j, j < len * 3 → ∃ z : Int, W.cell? (x.add j) = some (.int .i64 z) := by
      intro j hj
      obtain ⟨cs', h1, h2⟩ := hx (j / 3) (by omega)
      rw [hc] at h1
      obtain ⟨y0, y1, y2, n', _, hlen, r0, r1, r2⟩ := Deep.trod_struct3 he h2
      rw [t0, o0, hci] at r0
      rw [t1, o1, hci] at r1
      rw [t2, o2, hci] at r2
      obtain ⟨z0, e0, _⟩ := DataW.trod_int hi r0
      obtain ⟨z1, e1, _⟩ := DataW.trod_int hi r1
      obtain ⟨z2, e2, _⟩ := DataW.trod_int hi r2
      obtain ⟨g0, g1, g2⟩ := one_of_three e0 e1 e2
      have hcell := (World.cells?_some h1)
      have hk : ∀ k, k < 3 → W.cell? (x.add (j / 3 * 3 + k)) = cs'[k]? := fun k hk => by
        have := hcell.2.2 k hk
        rw [← this]
        congr 1
        unfold Addr.add
        by_cases q : j / 3 * 3 = 0
        · simp [q]
        · simp [q]
          by_cases q2 : k = 0
          · simp [q2]
          · simp [q2, Nat.add_assoc]
      rcases (show j % 3 = 0 ∨ j % 3 = 1 ∨ j % 3 = 2 by omega) with q | q | q
      · exact ⟨z0, by rw [show j = j / 3 * 3 + 0 from by omega, hk 0 (by omega), g0]⟩
      · exact ⟨z1, by rw [show j = j / 3 * 3 + 1 from by omega, hk 1 (by omega), g1]⟩
      · exact ⟨z2, by rw [show j = j / 3 * 3 + 2 from by omega, hk 2 (by omega), g2]⟩
    refine ⟨fun j => if hj : j < len * 3 then Classical.choose (each j hj) else 0, hl, hm, Row.of_cells fun j hj => ?_⟩
    simp only [dif_pos hj]
    exact Classical.choose_spec (each j hj)
end Go.Proofs.Ytccmafmeblojpaa
