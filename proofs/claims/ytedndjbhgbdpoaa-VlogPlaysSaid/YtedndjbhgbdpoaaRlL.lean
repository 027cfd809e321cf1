/- Plain laws of the reference's log: what an item more turns. -/
import Derived.Test.YtedndjbhgbdpoaaRlP
namespace Go.Proofs.Ytedndjbhgbdpoaa
namespace Rl
theorem find_more {α : Type} (p : α → Bool) (L : List α) (x : α) : (L ++ [x]).find? p = (L.find? p).or (if p x = true then some x else Option.none) := by
  rw [List.find?_append]
  congr 1
  by_cases h : p x = true
  · rw [if_pos h, List.find?_cons_of_pos h]
  · rw [if_neg h, List.find?_cons_of_neg h]; rfl
def more (l : Rl) (x : It) : Rl := { l with L := l.L ++ [x] }
theorem proposal_more (l : Rl) (x : It) (seq : Int) : (l.more x).proposal seq = (l.proposal seq).or (if (decide (l.within seq) && l.here x 2 seq) = true then some x else Option.none) := find_more _ _ _
theorem voted_more (l : Rl) (x : It) (kind seq frm : Int) : (l.more x).voted kind seq frm = (l.voted kind seq frm).or (if (decide (l.within seq) && l.here x kind seq && decide (x.frm = frm)) = true then some x else Option.none) := find_more _ _ _
theorem last_more (l : Rl) (x : It) (frm : Int) : (l.more x).last frm = if x.kind = 5 ∧ x.frm = frm then some x else l.last frm := by
  unfold last more
  show ((l.L ++ [x]).reverse).find? _ = _
  rw [List.reverse_append, List.reverse_cons, List.reverse_nil, List.nil_append, List.singleton_append]
  by_cases h : x.kind = 5 ∧ x.frm = frm
  · rw [if_pos h, List.find?_cons_of_pos (by simp [h.1, h.2])]
  · rw [if_neg h, List.find?_cons_of_neg (by simpa using h)]
end Rl
end Go.Proofs.Ytedndjbhgbdpoaa
