/- A book as the laws use it: one predicate, one lemma for each call. -/
import Derived.Test.YtilbhnloelgpdaaBkC
namespace Go.Proofs.Ytilbhnloelgpdaa
open Go.RowKit
set_option linter.unusedVariables false
set_option linter.unusedSimpArgs false
/-- A book made behind w0, and nothing below has turned. -/
def Bw (w0 w : World) (g : Nat) (b : Bk) : Prop := ∃ gl, AtB w g gl b ∧ w0.heap.size ≤ g ∧ (∀ k, gl = some k → w0.heap.size ≤ k) ∧ Below w0.heap.size w0 w
section
variable {w0 w w' : World} {g : Nat} {b b' : Bk}
theorem Bw.all (h : Bw w0 w g b) : Below w0.heap.size w0 w := by
  obtain ⟨_, _, _, _, h⟩ := h
  exact h
theorem Bw.ok (h : Bw w0 w g b) : b.Ok := by
  obtain ⟨_, h, _⟩ := h
  exact h.ok
theorem Bw.below (h : Bw w0 w g b) (hb : Below w.heap.size w w') : Bw w0 w' g b := by
  obtain ⟨gl, h1, h2, h3, h4⟩ := h
  exact ⟨gl, h1.below hb, h2, h3, below_next h4 hb⟩
theorem Bw.turn {gl : Option Nat} (h1 : AtB w g gl b) (h2 : w0.heap.size ≤ g) (h3 : ∀ k, gl = some k → w0.heap.size ≤ k) (h4 : Below w0.heap.size w0 w) (ht : Turns w w' g gl b') : Bw w0 w' g b' := by
  obtain ⟨gl', t1, t2, t3⟩ := ht
  refine ⟨gl', t1, h2, fun k hk => ?_, h4.trans (t2.below h4.size fun k hk => ?_)⟩
  · rcases t3 with e | ⟨k', e, hk'⟩
    · exact h3 k (e ▸ hk)
    · rw [e] at hk; cases hk; exact Nat.le_trans h4.size hk'
  · rcases hk with rfl | hk
    · exact h2
    · exact h3 k hk.symm
theorem Bw.new (w : World) : Calls Try.prog 28 #[] w fun e w' => ∃ g, e = .returned (.pointer (some ⟨g, 0, none⟩)) ∧ Bw w w' g Bk.fresh :=
  (new_calls w).mono fun _ _ ⟨g, h1, h2, h3, h4⟩ => ⟨g, h1, none, h2, h3, nofun, h4⟩
theorem Bw.put (h : Bw w0 w g b) (q : Ord) : Calls Try.prog 32 #[.pointer (some ⟨g, 0, none⟩), oval q] w fun e w' => e = .returned (.int .i64 (b.put q).2) ∧ Bw w0 w' g (b.put q).1 := by
  obtain ⟨gl, h1, h2, h3, h4⟩ := h
  exact (put_calls w g gl b h1 q).mono fun _ _ ⟨e, ht⟩ => ⟨e, Bw.turn h1 h2 h3 h4 ht⟩
theorem Bw.get (h : Bw w0 w g b) (id : Int) : Calls Try.prog 26 #[.pointer (some ⟨g, 0, none⟩), .int .i64 id] w fun e w' => e = .returned (.tuple #[oval (b.get id).1, .bool (b.get id).2]) ∧ Below w.heap.size w w' := by
  obtain ⟨gl, h1, h2, h3, h4⟩ := h
  exact get_calls w g gl b h1 id
theorem Bw.orders (h : Bw w0 w g b) : Calls Try.prog 23 #[.pointer (some ⟨g, 0, none⟩)] w (Listed w b.l) := by
  obtain ⟨gl, h1, h2, h3, h4⟩ := h
  exact orders_calls w g gl b h1
theorem Bw.clear (h : Bw w0 w g b) : Calls Try.prog 24 #[.pointer (some ⟨g, 0, none⟩)] w fun e w' => ∃ A c, e = .returned (.tuple #[.int .i64 b.clear.2.1.1, .int .i64 b.clear.2.1.2, .slice A b.clear.2.2.length c]) ∧ Mine w w' 3 (.slice A b.clear.2.2.length c) b.clear.2.2.length (fcells b.clear.2.2) ∧ Bw w0 w' g b.clear.1 := by
  obtain ⟨gl, h1, h2, h3, h4⟩ := h
  exact (clear_calls w g gl b h1).mono fun _ _ ⟨A, c, e, hm, ha, ho⟩ => ⟨A, c, e, hm, Bw.turn h1 h2 h3 h4 ⟨gl, ha, ho, .inl rfl⟩⟩
end
end Go.Proofs.Ytilbhnloelgpdaa
