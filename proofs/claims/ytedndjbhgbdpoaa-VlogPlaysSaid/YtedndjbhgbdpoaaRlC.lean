/- A checkpoint turns both logs alike. -/
import Derived.Test.YtedndjbhgbdpoaaRlR
namespace Go.Proofs.Ytedndjbhgbdpoaa
namespace Pair
variable {x : Vl} {y : Rl}
theorem mark (h : Pair x y) (m : Sg) (seq : Int) (d : ByteArray) : Pair { x with marks := putAt x.marks m.frm ⟨m, seq, d⟩ } (y.taken ⟨5, m.frm, 0, seq, d, noText, m⟩) := by
  have e : y.taken ⟨5, m.frm, 0, seq, d, noText, m⟩ = y.more ⟨5, m.frm, 0, seq, d, noText, m⟩ := by
    unfold Rl.taken Rl.more
    simp
  rw [e]
  refine ⟨h.n, h.view, h.low, fun s hw => ?_, fun j s frm hj hw h0 h1 => ?_, fun frm h0 h1 => ?_, h.kept, fun it hi hk => ?_⟩
  · rw [Rl.proposal_more, h.prop s hw, if_neg (by simp [Rl.here]), Option.or_none]; rfl
  · rw [Rl.voted_more, h.votes j s frm hj hw h0 h1, if_neg (by simp [Rl.here]; omega), Option.or_none]; rfl
  · rw [Rl.last_more]
    by_cases c : m.frm = frm
    · subst c
      rw [if_pos ⟨rfl, rfl⟩]
      show _ = (putAt x.marks m.frm ⟨m, seq, d⟩ m.frm).map _
      unfold putAt
      rw [if_pos rfl]
      rfl
    · rw [if_neg (fun hh => c hh.2), h.marks frm h0 h1]
      show _ = (putAt x.marks m.frm ⟨m, seq, d⟩ frm).map _
      unfold putAt
      rw [if_neg (fun hh => c hh.symm)]
  · rcases List.mem_append.1 hi with hi | hi
    · exact h.past it hi hk
    · rw [List.mem_singleton.1 hi] at hk
      exact absurd rfl hk
theorem check (h : Pair x y) (hlow : 0 ≤ x.low) (m : Sg) (kind seq : Int) (d : ByteArray) : (y.check m kind seq d).2 = (x.check m kind seq d).2 ∧ Pair (x.check m kind seq d).1 (y.check m kind seq d).1 := by
  unfold Rl.check Vl.check
  rw [h.n, h.low]
  by_cases c1 : m.frm < 0 ∨ x.n ≤ m.frm ∨ kind ≠ 5
  · rw [if_pos c1, if_pos c1]; exact ⟨rfl, h⟩
  · rw [if_neg c1, if_neg c1]
    by_cases c2 : seq ≤ x.low
    · rw [if_pos c2, if_pos c2]; exact ⟨rfl, h⟩
    · rw [if_neg c2, if_neg c2]
      have hm := h.marks m.frm (by omega) (by omega)
      cases hk : x.marks m.frm with
      | none =>
        rw [hk] at hm
        rw [hm]
        simp only [Option.map_none, Option.getD_none]
        rw [if_pos (by omega)]
        exact ⟨rfl, h.mark m seq d⟩
      | some k =>
        rw [hk] at hm
        rw [hm]
        simp only [Option.map_some, Option.getD_some, Mk.it]
        by_cases c3 : k.seq < seq
        · rw [if_pos c3, if_neg (by omega), if_neg (by omega)]
          exact ⟨rfl, h.mark m seq d⟩
        · rw [if_neg c3]
          by_cases c4 : seq = k.seq ∧ d ≠ k.root
          · rw [if_pos c4, if_pos c4]; exact ⟨rfl, h⟩
          · rw [if_neg c4, if_neg c4, if_pos (by omega)]; exact ⟨rfl, h⟩
end Pair
end Go.Proofs.Ytedndjbhgbdpoaa
