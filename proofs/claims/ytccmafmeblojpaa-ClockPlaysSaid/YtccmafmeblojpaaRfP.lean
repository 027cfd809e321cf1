/- The plain auction's calls, told by the demands round by round. -/
import Derived.Test.YtccmafmeblojpaaRfM
namespace Go.Proofs.Ytccmafmeblojpaa
set_option linter.unusedVariables false
namespace Auc
theorem bid_same {a : Auc} {who n : Int} (h : (a.bid who n).2 ≠ 0) : (a.bid who n).1 = a := by
  unfold Auc.bid at *
  split
  · rfl
  split
  · rfl
  split
  · rfl
  · rename_i h1 h2 h3
    rw [if_neg h1, if_neg h2, if_neg h3] at h
    exact (h rfl).elim
theorem set_wasl (a : Auc) {i : Nat} (n : Int) (h : i < a.l.length) : ({ a with l := a.l.set i ((a.l.getD i (0, 0)).1, n) } : Auc).wasl = a.wasl := by
  show (a.l.set i _).map (·.1) = a.l.map (·.1)
  rw [List.map_set]
  apply List.ext_getElem?
  intro j
  rw [List.getElem?_set]
  by_cases e : i = j
  · subst e
    rw [if_pos rfl, if_pos (by simpa using h), List.getElem?_map, List.getElem?_eq_getElem h, List.getD_eq_getElem?_getD, List.getElem?_eq_getElem h]; rfl
  · rw [if_neg e]
theorem set_nowl (a : Auc) (i : Nat) (x n : Int) : ({ a with l := a.l.set i (x, n) } : Auc).nowl = a.nowl.set i n := by
  show (a.l.set i _).map (·.2) = (a.l.map (·.2)).set i n
  rw [List.map_set]
theorem step_wasl (l : List (Int × Int)) : (l.map fun p => (p.2, p.2)).map (·.1) = l.map (·.2) := by rw [List.map_map]; rfl
theorem step_nowl (l : List (Int × Int)) : (l.map fun p => (p.2, p.2)).map (·.2) = l.map (·.2) := by rw [List.map_map]; rfl
theorem nowl_sum (a : Auc) : a.nowl.sum = a.demand := rfl
theorem bid_len (a : Auc) (who n : Int) : (a.bid who n).1.l.length = a.l.length := by
  unfold Auc.bid
  split
  · rfl
  split
  · rfl
  split
  · rfl
  · simp
theorem bid_round (a : Auc) (who n : Int) : (a.bid who n).1.round = a.round := by
  unfold Auc.bid
  split
  · rfl
  split
  · rfl
  split <;> rfl
theorem next_len (a : Auc) : a.next.1.l.length = a.l.length := by
  unfold Auc.next
  split
  · rfl
  split
  · rfl
  split
  · rfl
  · simp
theorem next_round (a : Auc) : a.next.1.round = a.round ∨ a.next.1.round = a.round + 1 := by
  unfold Auc.next
  split
  · exact .inl rfl
  split
  · exact .inl rfl
  split
  · exact .inl rfl
  · exact .inr rfl
end Auc
end Go.Proofs.Ytccmafmeblojpaa
