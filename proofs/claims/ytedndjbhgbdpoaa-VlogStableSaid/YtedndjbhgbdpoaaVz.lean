/- A log that saw checkpoints alone, beside two rows of the law's own. -/
import Derived.Test.YtedndjbhgbdpoaaStL
namespace Go.Proofs.Ytedndjbhgbdpoaa
open Go.RowKit
section
variable {w0 w w' : World} {g g1 g2 : Nat} {l : Vl}
theorem AtV.off {gm : Nat} {gv : Nat → Nat → Option Nat} {kv : Nat → Value} (h : AtV w g gm gv kv l) (hl : ∀ k, l.slots k = Slot.none) {S : Nat → Prop} (ho : Only S w w') (hS : ∀ b, feetW g gm gv b → ¬ S b) : AtV w' g gm gv kv l := by
  have keep : ∀ b, feetW g gm gv b → b < w.heap.size → w'.heap[b]? = w.heap[b]? := fun b hb hlt => ho.block b hlt (hS b hb)
  refine ⟨(keep g (.inl rfl) h.blk.lt).trans h.blk, fun k j hk hj => (h.maps k j hk hj).carry fun b hb hlt => keep b (.inr (.inr ⟨k, j, hk, hj, hb⟩)) hlt, h.marks.carry (keep gm (.inr (.inl rfl)) h.marks.lt), fun k hk => ?_, h.apart, h.ok⟩
  rcases h.lists k hk with h1 | ⟨b, o, c, e1, e2, _⟩
  · exact .inl h1
  · refine .inr ⟨b, o, c, e1, e2, .inl ?_⟩
    rw [hl k]; rfl
/-- Block g is the log l; blocks g1, g2 are none of its. -/
def Vz (w0 w : World) (g : Nat) (l : Vl) (g1 g2 : Nat) : Prop :=
  ∃ gm gv kv, AtV w g gm gv kv l ∧ (∀ b, feetW g gm gv b → w0.heap.size ≤ b) ∧ Below w0.heap.size w0 w ∧ (∀ b, feetW g gm gv b → b ≠ g1 ∧ b ≠ g2) ∧ g1 < w.heap.size ∧ g2 < w.heap.size ∧ w0.heap.size ≤ g1 ∧ w0.heap.size ≤ g2
theorem Vz.start (h : Vw w0 w g l) (hb : Below w.heap.size w w') (h1 : w.heap.size ≤ g1) (h2 : w.heap.size ≤ g2) (h3 : g1 < w'.heap.size) (h4 : g2 < w'.heap.size) : Vz w0 w' g l g1 g2 := by
  obtain ⟨gm, gv, kv, a1, a2, a3, a4, a5⟩ := h
  refine ⟨gm, gv, kv, a1.below hb, fun b hb' => ?_, a5.trans (hb.mono a5.size), fun b hb' => ?_, h3, h4, Nat.le_trans a5.size h1, Nat.le_trans a5.size h2⟩
  · rcases hb' with rfl | rfl | ⟨k, j, hk, hj, hb'⟩
    · exact a2
    · exact a3
    · exact a4 k j b hk hj hb'
  · have := feet_lt a1 hb'
    exact ⟨by omega, by omega⟩
theorem Vz.all (h : Vz w0 w g l g1 g2) : Below w0.heap.size w0 w := by obtain ⟨_, _, _, _, _, h, _⟩ := h; exact h
theorem Vz.next (h : Vz w0 w g l g1 g2) (hb : Below w.heap.size w w') : Vz w0 w' g l g1 g2 := by
  obtain ⟨gm, gv, kv, a1, a2, a3, a4, a5, a6, a7, a8⟩ := h
  exact ⟨gm, gv, kv, a1.below hb, a2, a3.trans (hb.mono a3.size), a4, Nat.lt_of_lt_of_le a5 hb.size, Nat.lt_of_lt_of_le a6 hb.size, a7, a8⟩
theorem Vz.stable (h : Vz w0 w g l g1 g2) : Calls Try.prog 28 #[.pointer (some ⟨g, 0, none⟩)] w (StableTo l w) := by
  obtain ⟨gm, gv, kv, a1, _⟩ := h
  exact stable_calls a1
theorem Vz.put (h : Vz w0 w g l g1 g2) (hl : ∀ k, l.slots k = Slot.none) (ho : Only (fun b => b = g1 ∨ b = g2) w w') : Vz w0 w' g l g1 g2 := by
  obtain ⟨gm, gv, kv, a1, a2, a3, a4, a5, a6, a7, a8⟩ := h
  refine ⟨gm, gv, kv, a1.off hl ho fun b hb hS => ?_, a2, a3.trans (ho.below a3.size fun b hb => ?_), a4, Nat.lt_of_lt_of_le a5 ho.size, Nat.lt_of_lt_of_le a6 ho.size, a7, a8⟩
  · have := a4 b hb
    rcases hS with hS | hS
    · exact this.1 hS
    · exact this.2 hS
  · rcases hb with rfl | rfl
    · exact a7
    · exact a8
theorem Vz.done3 (h : Vz w0 w g l g1 g2) {wz : World} (hz : Below w.heap.size w wz) (a : VAct) : Calls Try.prog 16 #[.pointer (some ⟨g, 0, none⟩), .agg (acells a).toArray] wz fun e w' => e = .returned (.int .i64 (l.act a).2) ∧ Vz w0 w' g (l.act a).1 g1 g2 ∧ w'.heap[g1]? = wz.heap[g1]? ∧ w'.heap[g2]? = wz.heap[g2]? ∧ ∀ b, w.heap.size ≤ b → b < wz.heap.size → w'.heap[b]? = wz.heap[b]? := by
  obtain ⟨gm, gv, kv, a1, a2, a3, a4, a5, a6, a7, a8⟩ := h
  have hsz := hz.size
  have hft : ∀ b, feetW g gm gv b → b < w.heap.size := fun b hb => feet_lt a1 hb
  have a3' : Below w0.heap.size w0 wz := a3.trans (hz.mono a3.size)
  have a5' : g1 < wz.heap.size := by omega
  have a6' : g2 < wz.heap.size := by omega
  refine (done_any (a1.below hz) a).mono fun e w' ⟨b1, ⟨gv', kv', b2, b3⟩, b4⟩ => ⟨b1, ⟨gm, gv', kv', b2, fun b hb => ?_, a3'.trans (b4.below a3'.size a2), fun b hb => ?_, Nat.lt_of_lt_of_le a5' b4.size, Nat.lt_of_lt_of_le a6' b4.size, a7, a8⟩, b4.block g1 a5' fun hf => (a4 g1 hf).1 rfl, b4.block g2 a6' fun hf => (a4 g2 hf).2 rfl, fun b h1 h2 => b4.block b h2 fun hf => by have := hft b hf; omega⟩
  · rcases hb with rfl | rfl | ⟨k, j, hk, hj, hb⟩
    · exact a2 _ (.inl rfl)
    · exact a2 _ (.inr (.inl rfl))
    · rcases b3 k j b hk hj hb with h | h
      · exact a2 b (.inr (.inr ⟨k, j, hk, hj, h⟩))
      · exact Nat.le_trans a3'.size h
  · rcases hb with rfl | rfl | ⟨k, j, hk, hj, hb⟩
    · exact a4 _ (.inl rfl)
    · exact a4 _ (.inr (.inl rfl))
    · rcases b3 k j b hk hj hb with h | h
      · exact a4 b (.inr (.inr ⟨k, j, hk, hj, h⟩))
      · exact ⟨by omega, by omega⟩
end
/-- Rows of seven. -/
def iarr (f : Nat → Int) : Array Value := ((List.range 7).map fun j => Value.int .i64 (f j)).toArray
def sarr (f : Nat → ByteArray) : Array Value := ((List.range 7).map fun j => Value.string (f j)).toArray
theorem iarr_at (f : Nat → Int) {j : Nat} (hj : j < 7) : (iarr f)[j]? = some (.int .i64 (f j)) := by
  unfold iarr
  rw [List.getElem?_toArray, List.getElem?_map, List.getElem?_range hj]; rfl
theorem sarr_at (f : Nat → ByteArray) {j : Nat} (hj : j < 7) : (sarr f)[j]? = some (.string (f j)) := by
  unfold sarr
  rw [List.getElem?_toArray, List.getElem?_map, List.getElem?_range hj]; rfl
theorem iarr_put (f f' : Nat → Int) {i : Nat} (x : Int) (hi : i < 7) (h : ∀ j, f' j = if j = i then x else f j) : (iarr f).setIfInBounds i (.int .i64 x) = iarr f' := by
  unfold iarr
  rw [List.setIfInBounds_toArray]
  congr 1
  apply List.ext_getElem?
  intro j
  rw [List.getElem?_set]
  by_cases e : i = j
  · subst e
    rw [if_pos rfl, if_pos (by simpa using hi), List.getElem?_map, List.getElem?_range hi]
    simp [h]
  · rw [if_neg e]
    by_cases hj : j < 7
    · rw [List.getElem?_map, List.getElem?_map, List.getElem?_range hj]
      simp only [Option.map_some]
      rw [h, if_neg (fun e2 => e e2.symm)]
    · rw [List.getElem?_eq_none (by simp; omega), List.getElem?_eq_none (by simp; omega)]
theorem sarr_put (f f' : Nat → ByteArray) {i : Nat} (x : ByteArray) (hi : i < 7) (h : ∀ j, f' j = if j = i then x else f j) : (sarr f).setIfInBounds i (.string x) = sarr f' := by
  unfold sarr
  rw [List.setIfInBounds_toArray]
  congr 1
  apply List.ext_getElem?
  intro j
  rw [List.getElem?_set]
  by_cases e : i = j
  · subst e
    rw [if_pos rfl, if_pos (by simpa using hi), List.getElem?_map, List.getElem?_range hi]
    simp [h]
  · rw [if_neg e]
    by_cases hj : j < 7
    · rw [List.getElem?_map, List.getElem?_map, List.getElem?_range hj]
      simp only [Option.map_some]
      rw [h, if_neg (fun e2 => e e2.symm)]
    · rw [List.getElem?_eq_none (by simp; omega), List.getElem?_eq_none (by simp; omega)]
end Go.Proofs.Ytedndjbhgbdpoaa
