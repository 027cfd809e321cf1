/- The reference's Fills, in plain: an order goes to its place from the right end; who is filled. -/
import Derived.Test.YtilbhnloelgpdaaBkC1
namespace Go.Proofs.Ytilbhnloelgpdaa
open Go.RowKit
set_option linter.unusedVariables false
set_option linter.unusedSimpArgs false
/-- o goes to place k in S, where all behind stand behind o and the one ahead does not. -/
theorem rins_stab {sd : Bool} {M S : List Ord} {o : Ord} {k : Nat} (h : Stab (fst sd) M S) (hk : k ≤ S.length) (h2 : ∀ x ∈ S.drop k, fst sd o x = true) (h1 : k = 0 ∨ fst sd o (S.getD (k - 1) ord0) = false) : Stab (fst sd) (M ++ [o]) (S.take k ++ o :: S.drop k) := by
  have hw := fst_swo sd
  have e : S.take k ++ S.drop k = S := List.take_append_drop ..
  have hs : Stab (fst sd) (S.take k ++ S.drop k ++ [o]) (S.take k ++ o :: S.drop k) := by
    refine stab_insert hw (by rw [e]; exact h.sorted) (fun x hx => ?_) h2
    rcases h1 with rfl | h1
    · simp at hx
    · obtain ⟨j, hj, ej⟩ := List.getElem_of_mem hx
      rw [List.length_take] at hj
      rw [List.getElem_take] at ej
      have hk1 : k - 1 < S.length := by omega
      have e1 : S.getD (k - 1) ord0 = S[k - 1] := by rw [List.getD_eq_getElem?_getD, List.getElem?_eq_getElem hk1]; rfl
      rw [e1] at h1
      by_cases hjk : j = k - 1
      · subst hjk; rw [← ej]; exact h1
      · have h3 : fst sd S[k - 1] S[j] = false := List.pairwise_iff_getElem.1 h.sorted j (k - 1) (by omega) hk1 (by omega)
        rw [← ej]
        exact hw.le_trans h3 h1
  rw [e] at hs
  exact Stab.of_alike (B := S ++ [o]) (fun x => by rw [cls_append, cls_append, h.alike]) (by rw [List.length_append, List.length_append, h.len]) hs
theorem drop_cons_all {p : Ord → Bool} {S : List Ord} {k : Nat} (hk : k < S.length) (h0 : p (S.getD k ord0) = true) (h : ∀ x ∈ S.drop (k + 1), p x = true) : ∀ x ∈ S.drop k, p x = true := by
  intro x hx
  rw [List.drop_eq_getElem_cons hk] at hx
  rcases List.mem_cons.1 hx with rfl | hx
  · have e1 : S.getD k ord0 = S[k] := by rw [List.getD_eq_getElem?_getD, List.getElem?_eq_getElem hk]; rfl
    rw [← e1]; exact h0
  · exact h x hx
namespace Ca
def sideR (sd : Bool) (p : Int) (L : List Ord) (i : Nat) : List Ord := sideOf sd p ((L.take i).filter Ord.right)
theorem sideR_zero (sd : Bool) (p : Int) (L : List Ord) : sideR sd p L 0 = [] := by simp [sideR, sideOf]
theorem sideR_all (sd : Bool) (p : Int) (L : List Ord) (h : L.length ≤ 64) : sideR sd p L L.length = sideOf sd p (rights L) := by
  unfold sideR rights
  rw [List.take_length, if_neg (by omega)]
theorem sideR_next (sd : Bool) (p : Int) (L : List Ord) {k : Nat} (h : k < L.length) : sideR sd p L (k + 1) = sideR sd p L k ++ (if (L.getD k ord0).right = true ∧ good sd p (L.getD k ord0) = true then [L.getD k ord0] else []) := by
  unfold sideR
  rw [take_at L h, List.filter_append, filter_one]
  unfold sideOf
  rw [List.filter_append]
  congr 1
  generalize L.getD k ord0 = q
  by_cases hr : q.right = true
  · rw [if_pos hr]
    by_cases hg : good sd p q = true
    · rw [if_pos ⟨hr, hg⟩, List.filter_cons_of_pos hg]; rfl
    · rw [if_neg fun hh => hg hh.2, List.filter_cons_of_neg hg]; rfl
  · rw [if_neg hr, if_neg fun hh => hr hh.1]; rfl
theorem sideR_few (sd : Bool) (p : Int) (L : List Ord) (i : Nat) : (sideR sd p L i).length ≤ i := by
  unfold sideR sideOf
  have h1 := List.length_filter_le (good sd p) ((L.take i).filter Ord.right)
  have h2 := List.length_filter_le Ord.right (L.take i)
  rw [List.length_take] at h2
  omega
theorem sideR_right {sd : Bool} {p : Int} {L : List Ord} {i : Nat} {o : Ord} (h : o ∈ sideR sd p L i) : 1 ≤ o.amount ∧ o.amount ≤ 1048576 ∧ o.buys = sd := by
  have h1 := (Ord.right_iff o).1 (List.mem_filter.1 (List.mem_filter.1 h).1).2
  exact ⟨by omega, by omega, sideOf_buys o h⟩
theorem fillGo_none : ∀ (l : List Ord) (n : Int), n ≤ 0 → fillGo n l = []
  | [], _, _ => rfl
  | q :: l, n, h => by
    unfold fillGo
    rw [if_neg (by omega)]
    exact fillGo_none l n h
theorem fillGo_append : ∀ (l m : List Ord) (n : Int), fillGo n (l ++ m) = fillGo n l ++ fillGo (leftGo n l) m
  | [], m, n => rfl
  | q :: l, m, n => by
    simp only [List.cons_append, fillGo, leftGo]
    split
    · rw [List.cons_append, fillGo_append l m]
    · exact fillGo_append l m n
theorem fillGo_done (l : List Ord) (n : Int) {i : Nat} (h : leftGo n (l.take i) ≤ 0) : fillGo n (l.take i) = fillGo n l := by
  have e : l = l.take i ++ l.drop i := (List.take_append_drop ..).symm
  conv => rhs; rw [e, fillGo_append, fillGo_none _ _ h, List.append_nil]
/-- One more is filled. -/
theorem fillGo_take (l : List Ord) (n : Int) {i : Nat} (hi : i < l.length) (hp : 0 < leftGo n (l.take i)) (ha : 1 ≤ (l.getD i ord0).amount) :
    fillGo n (l.take (i + 1)) = fillGo n (l.take i) ++ [⟨(l.getD i ord0).id, (l.getD i ord0).owner, min (leftGo n (l.take i)) (l.getD i ord0).amount⟩] ∧ leftGo n (l.take (i + 1)) = leftGo n (l.take i) - min (leftGo n (l.take i)) (l.getD i ord0).amount := by
  rw [take_at l hi, fillGo_snoc, leftGo_snoc, if_pos (by omega), if_pos (by omega)]
  exact ⟨rfl, rfl⟩
end Ca
end Go.Proofs.Ytilbhnloelgpdaa
