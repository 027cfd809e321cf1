/- A log that the laws made, beside a block of the law's own. -/
import Derived.Test.YtedndjbhgbdpoaaVlS
namespace Go.Proofs.Ytedndjbhgbdpoaa
open Go.RowKit
/-- Block g is the log l; block gw is none of its, and holds ob. -/
def Vk (w0 w : World) (g : Nat) (l : Vl) (gw : Nat) (ob : Obj) : Prop :=
  ∃ gm gv kv, AtV w g gm gv kv l ∧ w0.heap.size ≤ g ∧ w0.heap.size ≤ gm ∧ (∀ k j b, k < 8 → j < 2 → gv k j = some b → w0.heap.size ≤ b) ∧ Below w0.heap.size w0 w ∧ g ≠ gw ∧ gm ≠ gw ∧ (∀ k j, k < 8 → j < 2 → gv k j ≠ some gw) ∧ w.heap[gw]? = some ob
section
variable {w0 w w' : World} {g gw : Nat} {l : Vl} {ob : Obj}
theorem Vk.vw (h : Vk w0 w g l gw ob) : Vw w0 w g l := by
  obtain ⟨gm, gv, kv, h1, h2, h3, h4, h5, _⟩ := h
  exact ⟨gm, gv, kv, h1, h2, h3, h4, h5⟩
theorem Vk.held (h : Vk w0 w g l gw ob) : w.heap[gw]? = some ob := by
  obtain ⟨_, _, _, _, _, _, _, _, _, _, _, h⟩ := h
  exact h
theorem Vk.lt (h : Vk w0 w g l gw ob) : gw < w.heap.size := (Array.getElem?_eq_some_iff.1 h.held).1
theorem Vk.all (h : Vk w0 w g l gw ob) : Below w0.heap.size w0 w := h.vw.all
theorem Vk.start (h : Vw w0 w g l) (hb : Below w.heap.size w w') (hg : w.heap.size ≤ gw) (ho : w'.heap[gw]? = some ob) : Vk w0 w' g l gw ob := by
  obtain ⟨gm, gv, kv, h1, h2, h3, h4, h5⟩ := h
  have e1 := h1.blk.lt
  have e2 := h1.marks.lt
  refine ⟨gm, gv, kv, h1.below hb, h2, h3, h4, h5.trans (hb.mono h5.size), by omega, by omega, fun k j hk hj e => ?_, ho⟩
  have := (h1.mapAt hk hj e).lt
  omega
theorem Vk.next (h : Vk w0 w g l gw ob) (hb : Below w.heap.size w w') : Vk w0 w' g l gw ob := by
  have hl := h.lt
  obtain ⟨gm, gv, kv, h1, h2, h3, h4, h5, h6, h7, h8, h9⟩ := h
  exact ⟨gm, gv, kv, h1.below hb, h2, h3, h4, h5.trans (hb.mono h5.size), h6, h7, h8, (hb.block gw hl).trans h9⟩
/-- What a call that turns the log leaves. -/
theorem Vk.turn (h : Vk w0 w g l gw ob) {C : Ending → World → Prop} {f : Nat} {args : Array Value} {r : Vl × Int}
    (hc : ∀ gm gv kv, AtV w g gm gv kv l → Calls Try.prog f args w fun e w' => C e w' ∧ VoteTo w w' g gm gv r.1 ∧ Only (feetW g gm gv) w w') : Calls Try.prog f args w fun e w' => C e w' ∧ Vk w0 w' g r.1 gw ob := by
  have hl := h.lt
  obtain ⟨gm, gv, kv, h1, h2, h3, h4, h5, h6, h7, h8, h9⟩ := h
  refine (hc gm gv kv h1).mono fun e w' ⟨a, ⟨gv', kv', b1, b2⟩, c⟩ => ⟨a, gm, gv', kv', b1, h2, h3, fun k j x hk hj hx => ?_, h5.trans (c.below h5.size fun x hx => ?_), h6, h7, fun k j hk hj hx => ?_, (c.block gw hl fun hx => ?_).trans h9⟩
  · exact (b2 k j x hk hj hx).elim (fun h => h4 k j x hk hj h) fun h => Nat.le_trans h5.size h
  · rcases hx with rfl | rfl | ⟨k, j, hk, hj, hx⟩
    · exact h2
    · exact h3
    · exact h4 k j x hk hj hx
  · rcases b2 k j gw hk hj hx with h | h
    · exact h8 k j hk hj h
    · omega
  · rcases hx with hx | hx | ⟨k, j, hk, hj, hx⟩
    · exact h6 hx.symm
    · exact h7 hx.symm
    · exact h8 k j hk hj hx
def TurnedK (w0 : World) (g : Nat) (r : Vl × Int) (gw : Nat) (ob : Obj) (e : Ending) (w' : World) : Prop := e = .returned (.int .i64 r.2) ∧ Vk w0 w' g r.1 gw ob
theorem done_any {gm : Nat} {gv : Nat → Nat → Option Nat} {kv : Nat → Value} (h1 : AtV w g gm gv kv l) (a : VAct) : Calls Try.prog 16 #[.pointer (some ⟨g, 0, none⟩), .agg (acells a).toArray] w (DidAct w g gm gv l a) := by
  have := arnd_lt a.kind (below := 6) (by omega)
  rcases (show arnd a.kind 6 = 0 ∨ arnd a.kind 6 = 1 ∨ arnd a.kind 6 = 2 ∨ arnd a.kind 6 = 3 ∨ arnd a.kind 6 = 4 ∨ arnd a.kind 6 = 5 by omega) with e | e | e | e | e | e
  · exact done0 h1 a e
  · exact done1 h1 a e
  · exact done2 h1 a e
  · exact done3 h1 a e
  · exact done4 h1 a e
  · exact done5 h1 a e
theorem Vk.done (h : Vk w0 w g l gw ob) (a : VAct) : Calls Try.prog 16 #[.pointer (some ⟨g, 0, none⟩), .agg (acells a).toArray] w (TurnedK w0 g (l.act a) gw ob) :=
  (h.turn (C := fun e _ => e = .returned (.int .i64 (l.act a).2)) (r := l.act a) fun _ _ _ h1 => done_any h1 a).mono fun _ _ h => h
end
/-- A row of pairs of Bools, filled up to the k-th. -/
def pairs (f : Nat → Bool) (n k : Nat) : List Value := (List.range n).map fun j => .bool (if j < 2 * k then f j else false)
theorem pairs_at (f : Nat → Bool) (n k : Nat) {j : Nat} (hj : j < n) : (pairs f n k)[j]? = some (.bool (if j < 2 * k then f j else false)) := by
  unfold pairs
  rw [List.getElem?_map, List.getElem?_range hj]; rfl
theorem pairs_put (f : Nat → Bool) (n k : Nat) (hk : 2 * k + 2 ≤ n) : splice (pairs f n k) (k * 2) [.bool (f (k * 2)), .bool (f (k * 2 + 1))] = pairs f n (k + 1) := by
  have hlen : ∀ k, (pairs f n k).length = n := fun k => by unfold pairs; simp
  apply List.ext_getElem?
  intro i
  rw [splice_at _ _ _ _ (by rw [hlen]; simp; omega)]
  by_cases hi : i < n
  · rw [pairs_at f n k hi, pairs_at f n (k + 1) hi]
    simp only [List.length_cons, List.length_nil]
    by_cases h : k * 2 ≤ i ∧ i < k * 2 + (0 + 1 + 1)
    · rw [if_pos h, if_pos (by omega)]
      rcases (show i = k * 2 ∨ i = k * 2 + 1 by omega) with rfl | rfl
      · rw [Nat.sub_self]; rfl
      · rw [show k * 2 + 1 - k * 2 = 1 from by omega]; rfl
    · rw [if_neg h]
      by_cases h2 : i < 2 * k
      · rw [if_pos h2, if_pos (by omega)]
      · rw [if_neg h2, if_neg (by omega)]
  · simp only [List.length_cons, List.length_nil]
    rw [if_neg (by omega), List.getElem?_eq_none (by rw [hlen]; omega), List.getElem?_eq_none (by rw [hlen]; omega)]
end Go.Proofs.Ytedndjbhgbdpoaa
