/- What a cut leaves: the plain law. -/
import Derived.Test.YtedndjbhgbdpoaaVlI
namespace Go.Proofs.Ytedndjbhgbdpoaa
theorem count_shift (P : Nat → Bool) (d : Nat) : (List.range 8).countP (fun i => decide (i + d < 8) && P (i + d)) = (List.range 8).countP (fun i => P i && decide (d ≤ i)) := by
  have e : List.range 8 = [0, 1, 2, 3, 4, 5, 6, 7] := by decide
  rw [e]
  by_cases h : d < 8
  · rcases (show d = 0 ∨ d = 1 ∨ d = 2 ∨ d = 3 ∨ d = 4 ∨ d = 5 ∨ d = 6 ∨ d = 7 by omega) with rfl | rfl | rfl | rfl | rfl | rfl | rfl | rfl <;> simp [List.countP_cons]
  · have h1 : ∀ i, decide (i + d < 8) = false := fun i => by simp; omega
    have h2 : ∀ i, i < 8 → decide (d ≤ i) = false := fun i hi => by simp; omega
    simp [List.countP_cons, h1, h2]
    intro _; omega
namespace Vl
def keptP (l : Vl) (s : Int) : Bool := decide ((l.slot s).kept.kind ≠ 0)
theorem kept_len (l : Vl) : l.kept.length = (List.range 8).countP (fun (i : Nat) => l.keptP (l.low + 1 + (i : Int))) := by
  unfold kept
  rw [List.length_filterMap_eq_countP]
  congr 1
  funext i
  unfold keptP
  simp only
  by_cases h : (l.slot (l.low + 1 + (i : Int))).kept.kind ≠ 0
  · rw [if_pos h, decide_eq_true h]; rfl
  · rw [if_neg h, decide_eq_false h]; rfl
theorem kept_count {l : Vl} (h : l.KInv) (seq : Int) : l.kept.countP (fun b => decide (seq < b.seq)) = (List.range 8).countP (fun (i : Nat) => l.keptP (l.low + 1 + (i : Int)) && decide (seq < l.low + 1 + (i : Int))) := by
  unfold kept
  rw [List.countP_filterMap]
  refine List.countP_congr fun i hi => ?_
  rw [List.mem_range] at hi
  have hs := h (l.low + 1 + (i : Int)) ⟨by omega, by omega⟩
  unfold keptP
  simp only
  by_cases hk : (l.slot (l.low + 1 + (i : Int))).kept.kind ≠ 0
  · rw [if_pos hk, decide_eq_true hk]
    simp [(hs.kept hk).1]
  · rw [if_neg hk, decide_eq_false hk]
    simp
theorem cut_eq {l : Vl} {seq : Int} (h1 : l.low < seq) (h2 : seq ≤ 1073741824) (h3 : seq % 4 = 0) : l.cut seq = ({ l.wiped (min 8 (seq - l.low).toNat) with low := seq }, 0) := by
  unfold cut
  rw [if_neg (by omega)]
theorem cut_bad {l : Vl} {seq : Int} (h : seq ≤ l.low ∨ 1073741824 < seq ∨ seq % 4 ≠ 0) : l.cut seq = (l, 1) := by
  unfold cut
  rw [if_pos h]
theorem cut_kept {l : Vl} (h : l.KInv) {seq : Int} (h1 : l.low < seq) (h2 : seq ≤ 1073741824) (h3 : seq % 4 = 0) : (l.cut seq).1.kept.length = l.kept.countP (fun b => decide (seq < b.seq)) := by
  rw [kept_len, kept_count h]
  have hc := count_shift (fun i => l.keptP (l.low + 1 + (i : Int))) (seq - l.low).toNat
  have e1 : (List.range 8).countP (fun (i : Nat) => (l.cut seq).1.keptP ((l.cut seq).1.low + 1 + (i : Int))) = (List.range 8).countP (fun i => decide (i + (seq - l.low).toNat < 8) && l.keptP (l.low + 1 + ((i + (seq - l.low).toNat : Nat) : Int))) := by
    refine List.countP_congr fun i hi => ?_
    rw [List.mem_range] at hi
    rw [cut_eq h1 h2 h3]
    show decide (((l.wiped (min 8 (seq - l.low).toNat)).slots (ix (seq + 1 + (i : Int)))).kept.kind ≠ 0) = true ↔ _
    rw [wiped_slot l h1 (by omega) (by omega)]
    have e2 : l.low + 1 + ((i + (seq - l.low).toNat : Nat) : Int) = seq + 1 + (i : Int) := by omega
    rw [e2]
    by_cases hb : seq + 1 + (i : Int) ≤ l.low + 8
    · rw [if_pos hb, decide_eq_true (show i + (seq - l.low).toNat < 8 by omega), Bool.true_and]; rfl
    · rw [if_neg hb, decide_eq_false (show ¬ i + (seq - l.low).toNat < 8 by omega), Bool.false_and]
      simp [Slot.none, Kb.none]
  rw [e1, hc]
  refine List.countP_congr fun i hi => ?_
  have : decide ((seq - l.low).toNat ≤ i) = decide (seq < l.low + 1 + (i : Int)) := decide_eq_decide.2 (by omega)
  rw [this]
theorem cut_proposal {l : Vl} {seq : Int} (h1 : l.low < seq) (h2 : seq ≤ 1073741824) (h3 : seq % 4 = 0) {i : Nat} (hi : i ≤ 8) : ((l.cut seq).1.proposal (l.low + (i : Int))).2.2 = ((l.proposal (l.low + (i : Int))).2.2 && decide (seq < l.low + (i : Int))) := by
  rw [cut_eq h1 h2 h3]
  by_cases ha : seq < l.low + (i : Int)
  · rw [decide_eq_true ha, Bool.and_true]
    unfold proposal
    rw [if_pos (show Vl.within _ _ from ⟨ha, by show l.low + (i : Int) ≤ seq + 8; omega⟩), if_pos (show Vl.within _ _ from ⟨by omega, by omega⟩)]
    show ((l.wiped (min 8 (seq - l.low).toNat)).slots (ix (l.low + (i : Int)))).has = _
    rw [wiped_slot l h1 ha (by omega), if_pos (by omega)]; rfl
  · rw [decide_eq_false ha, Bool.and_false]
    unfold proposal
    rw [if_neg (fun hw => ha hw.1)]
theorem cut_voted {l : Vl} {seq : Int} (h1 : l.low < seq) (h2 : seq ≤ 1073741824) (h3 : seq % 4 = 0) {i : Nat} (hi : i ≤ 8) (k frm : Int) : ((l.cut seq).1.voted k (l.low + (i : Int)) frm).isSome = ((l.voted k (l.low + (i : Int)) frm).isSome && decide (seq < l.low + (i : Int))) := by
  rw [cut_eq h1 h2 h3]
  by_cases ha : seq < l.low + (i : Int)
  · rw [decide_eq_true ha, Bool.and_true]
    unfold voted
    have w1 : Vl.within ({ l.wiped (min 8 (seq - l.low).toNat) with low := seq } : Vl) (l.low + (i : Int)) := ⟨ha, by show l.low + (i : Int) ≤ seq + 8; omega⟩
    have w2 : l.within (l.low + (i : Int)) := ⟨by omega, by omega⟩
    by_cases hk : k ≠ 3 ∧ k ≠ 4
    · rw [if_pos (.inl hk), if_pos (.inl hk)]
    · rw [if_neg (fun h => h.elim hk fun h => h w1), if_neg (fun h => h.elim hk fun h => h w2)]
      show ((((l.wiped (min 8 (seq - l.low).toNat)).slots (ix (l.low + (i : Int)))).votes (k - 3).toNat frm).map (·.m)).isSome = _
      rw [wiped_slot l h1 ha (by omega), if_pos (by omega)]; rfl
  · rw [decide_eq_false ha, Bool.and_false]
    unfold voted
    rw [if_pos (.inr (fun hw => ha hw.1))]; rfl
end Vl
end Go.Proofs.Ytedndjbhgbdpoaa
