/- What the program's log and the reference's have in common. -/
import Derived.Test.YtedndjbhgbdpoaaRlL
namespace Go.Proofs.Ytedndjbhgbdpoaa
/-- A vote, a proposal, a checkpoint as items. -/
def Vt.it (l : Vl) (kind seq frm : Int) (v : Vt) : It := ⟨kind, frm, l.view, seq, v.d, noText, v.m⟩
def Mk.it (frm : Int) (k : Mk) : It := ⟨5, frm, 0, k.seq, k.root, noText, k.m⟩
def Slot.it (l : Vl) (seq : Int) (s : Slot) : Option It := if s.has = true then some ⟨2, 0, l.view, seq, s.digest, s.batch, Sg.none⟩ else Option.none
structure Pair (x : Vl) (y : Rl) : Prop where
  n : y.n = x.n
  view : y.view = x.view
  low : y.low = x.low
  prop : ∀ seq, x.within seq → y.proposal seq = (x.slot seq).it x seq
  votes : ∀ (j : Nat) seq frm, j < 2 → x.within seq → 0 ≤ frm → frm < x.n → y.voted (3 + (j : Int)) seq frm = ((x.slot seq).votes j frm).map (Vt.it x (3 + (j : Int)) seq frm)
  marks : ∀ frm, 0 ≤ frm → frm < x.n → y.last frm = (x.marks frm).map (Mk.it frm)
  kept : y.kept = x.kept
  past : ∀ it ∈ y.L, it.kind ≠ 5 → it.view ≤ y.view ∧ it.seq ≤ y.low + 8
namespace Pair
variable {x : Vl} {y : Rl}
theorem fresh (n : Int) : Pair (Vl.fresh n) ⟨n, 0, 0, [], []⟩ :=
  ⟨rfl, rfl, rfl, fun _ _ => rfl, fun _ _ _ _ _ _ _ => rfl, fun _ _ _ => rfl, rfl, fun _ h => nomatch h⟩
theorem enter (h : Pair x y) (view : Int) : (y.enter view).2 = (x.enter view).2 ∧ Pair (x.enter view).1 (y.enter view).1 := by
  unfold Rl.enter Vl.enter
  rw [h.view]
  by_cases c : view ≤ x.view ∨ 1048576 < view
  · rw [if_pos c, if_pos c]; exact ⟨rfl, h⟩
  · rw [if_neg c, if_neg c]
    have hv : x.view < view := by omega
    have hsl : ∀ seq, Vl.slot { x with view := view, slots := fun k => if k < 8 then { Slot.none with kept := (x.slots k).kept } else x.slots k } seq = { Slot.none with kept := (x.slot seq).kept } := fun seq => by
      show (if ix seq < 8 then _ else _) = _
      rw [if_pos (ix_lt seq)]; rfl
    have hnone : ∀ it ∈ y.L, it.kind ≠ 5 → it.view ≠ view := fun it hi hk => by
      have := (h.past it hi hk).1
      rw [h.view] at this
      omega
    refine ⟨rfl, h.n, rfl, h.low, fun seq hw => ?_, fun j seq frm hj hw h0 h1 => ?_, h.marks, ?_, fun it hi hk => ?_⟩
    · rw [hsl]
      show List.find? _ _ = Option.none
      rw [List.find?_eq_none]
      intro it hi
      simp only [Rl.here, Bool.and_eq_true, decide_eq_true_eq, not_and]
      intro _ ⟨hk, hv2⟩
      exact absurd hv2 (hnone it hi (by omega))
    · rw [hsl]
      show List.find? _ _ = Option.none
      rw [List.find?_eq_none]
      intro it hi
      simp only [Rl.here, Bool.and_eq_true, decide_eq_true_eq, not_and]
      intro ⟨_, ⟨hk, hv2⟩, _⟩
      exact absurd hv2 (hnone it hi (by omega))
    · rw [h.kept]
      unfold Vl.kept
      congr 1
      funext i
      rw [hsl]
    · have := h.past it hi hk
      rw [h.view] at this
      exact ⟨by show it.view ≤ view; omega, this.2⟩
end Pair
end Go.Proofs.Ytedndjbhgbdpoaa
