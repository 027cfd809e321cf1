/- Plain facts of ClockCloses: what the rounds keep. -/
import Derived.Test.YtccmafmeblojpaaClockRisesW
namespace Go.Proofs.Ytccmafmeblojpaa
open Go.RowKit
/-- Behind i rounds and k bids of the next one. -/
structure Auc.Turn (a : Auc) (S p d : Int) (i k : Nat) (ls : List Int) : Prop where
  supply : a.supply = S
  start : a.start = p
  step : a.step = d
  round : a.round = i + 1
  state : a.state = 0
  len : a.l.length = 4
  lsl : ls.length = 4
  lsb : ∀ j, j < 4 → 0 ≤ ls.getD j 0 ∧ ls.getD j 0 ≤ 1000
  done : ∀ j, j < k → (a.l.getD j (0, 0)).2 = ls.getD j 0
  todo : 0 < i → ∀ j, k ≤ j → j < 4 → (a.l.getD j (0, 0)).1 = ls.getD j 0
theorem getD_set_self {α : Type} (l : List α) {i : Nat} (h : i < l.length) (x d : α) : (l.set i x).getD i d = x := by
  rw [List.getD_eq_getElem?_getD, List.getElem?_set_self h]; rfl
theorem getD_set_ne {α : Type} (l : List α) {i j : Nat} (h : i ≠ j) (x d : α) : (l.set i x).getD j d = l.getD j d := by
  rw [List.getD_eq_getElem?_getD, List.getElem?_set_ne h, ← List.getD_eq_getElem?_getD]
theorem Auc.Turn.bid {a : Auc} {S p d : Int} {i k : Nat} {ls : List Int} (h : a.Turn S p d i k ls) (hk : k < 4) (n : Int) (hn : 0 ≤ n ∧ n ≤ 1000) (hle : 0 < i → n ≤ ls.getD k 0) :
    (a.bid k n).2 = 0 ∧ (a.bid k n).1.Turn S p d i (k + 1) (ls.set k n) := by
  have hl := h.len
  have hlsl := h.lsl
  have E : a.bid k n = ({ a with l := a.l.set k ((a.l.getD k (0, 0)).1, n) }, 0) := by
    have hro := h.round
    unfold Auc.bid
    rw [if_neg (by rw [h.state]; simp), if_neg (by rw [hl]; omega)]
    rw [if_neg]
    · simp
    · rintro ⟨h1, h2⟩
      have hi : 0 < i := by omega
      have h3 := h.todo hi k (Nat.le_refl _) hk
      have h4 := hle hi
      simp only [Int.toNat_natCast] at h2
      omega
  rw [E]
  refine ⟨rfl, h.supply, h.start, h.step, h.round, h.state, by show (a.l.set _ _).length = 4; rw [List.length_set]; exact hl, by rw [List.length_set]; exact hlsl, fun j hj => ?_, fun j hj => ?_, fun hi j hj hj4 => ?_⟩
  · by_cases e : k = j
    · subst e; rw [getD_set_self _ (by omega)]; exact hn
    · rw [getD_set_ne _ e]; exact h.lsb j hj
  · show ((a.l.set k ((a.l.getD k (0, 0)).1, n)).getD j (0, 0)).2 = _
    by_cases e : k = j
    · subst e; rw [getD_set_self _ (by omega), getD_set_self _ (by omega)]
    · rw [getD_set_ne _ e, getD_set_ne _ e]; exact h.done j (by omega)
  · show ((a.l.set k ((a.l.getD k (0, 0)).1, n)).getD j (0, 0)).1 = _
    rw [getD_set_ne _ (by omega), getD_set_ne _ (by omega)]; exact h.todo hi j (by omega) hj4
theorem four_sum (l : List (Int × Int)) (ls : List Int) (h1 : l.length = 4) (h2 : ls.length = 4) (h : ∀ j, j < 4 → (l.getD j (0, 0)).2 = ls.getD j 0) : Auc.nows l = ls.sum := by
  match l, ls, h1, h2 with
  | [a, b, c, d], [x, y, z, t], _, _ =>
    have e0 := h 0 (by omega)
    have e1 := h 1 (by omega)
    have e2 := h 2 (by omega)
    have e3 := h 3 (by omega)
    simp at e0 e1 e2 e3
    simp [Auc.nows, e0, e1, e2, e3]
theorem Auc.Turn.demand {a : Auc} {S p d : Int} {i : Nat} {ls : List Int} (h : a.Turn S p d i 4 ls) : a.demand = ls.sum := four_sum a.l ls h.len h.lsl h.done
theorem Auc.Turn.next {a : Auc} {S p d : Int} {i : Nat} {ls : List Int} (h : a.Turn S p d i 4 ls) (hi : i ≤ 60) (hp : 0 ≤ p ∧ p ≤ 1000) (hd : 1 ≤ d ∧ d ≤ 100) :
    (ls.sum ≤ S → a.next.2 = (true, 0) ∧ a.next.1.state = 1) ∧ (S < ls.sum → a.next.2 = (false, 0) ∧ a.next.1.Turn S p d (i + 1) 0 ls) := by
  have hde := h.demand
  have hsu := h.supply
  refine ⟨fun hs => ?_, fun hs => ?_⟩
  · unfold Auc.next
    rw [if_neg (by rw [h.state]; simp), if_pos (by omega)]
    exact ⟨rfl, rfl⟩
  · have hpr : ¬ a.price > 1099511627776 - a.step := by
      unfold Auc.price
      rw [h.start, h.round, h.step, show ((i : Int) + 1 - 1) = (i : Int) from by omega]
      have : (i : Int) * d ≤ 60 * 100 := Int.mul_le_mul (by omega) hd.2 (by omega) (by omega)
      omega
    unfold Auc.next
    rw [if_neg (by rw [h.state]; simp), if_neg (by omega), if_neg hpr]
    refine ⟨rfl, h.supply, h.start, h.step, by show a.round + 1 = _; rw [h.round]; push_cast; omega, h.state, by show (a.l.map _).length = 4; rw [List.length_map]; exact h.len, h.lsl, h.lsb, fun j hj => by omega, fun _ j _ hj4 => ?_⟩
    show ((a.l.map fun p => (p.2, p.2)).getD j (0, 0)).1 = _
    rw [← h.done j hj4]
    have hl := h.len
    rw [List.getD_eq_getElem?_getD, List.getElem?_map, List.getElem?_eq_getElem (by omega), List.getD_eq_getElem?_getD, List.getElem?_eq_getElem (by omega)]; rfl
theorem Auc.Turn.price {a : Auc} {S p d : Int} {i k : Nat} {ls : List Int} (h : a.Turn S p d i k ls) : a.price = p + i * d := by
  unfold Auc.price
  rw [h.start, h.round, h.step, show ((i : Int) + 1 - 1) = (i : Int) from by omega]
end Go.Proofs.Ytccmafmeblojpaa
